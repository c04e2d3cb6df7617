/- Operations, the second part: arithmetic, comparisons, indexes, lengths, cuts. -/
import Derived.Test.YtnbmjbpekblhbaaGreatDoorKaOps
import Derived.Lib.Strings
import Derived.WalkLawsBesides
set_option linter.all false
namespace Go.Ka
open Go.RowKit
variable [Tab]

def pbits (op : BinOp) (k : IntKind) (x y : Int) : Int :=
  k.wrap ((match op with
    | .and => BitVec.ofInt k.bits x &&& BitVec.ofInt k.bits y
    | .or => BitVec.ofInt k.bits x ||| BitVec.ofInt k.bits y
    | .xor => BitVec.ofInt k.bits x ^^^ BitVec.ofInt k.bits y
    | _ => BitVec.ofInt k.bits x &&& ~~~(BitVec.ofInt k.bits y)).toNat : Int)

def pint (op : BinOp) (k : IntKind) (a b : Int) : Option Value :=
  match op with
  | .add => some (.int k (k.wrap (a + b)))
  | .sub => some (.int k (k.wrap (a - b)))
  | .mul => some (.int k (k.wrap (a * b)))
  | .quo => if b = 0 then none else some (.int k (k.wrap (a.tdiv b)))
  | .rem => if b = 0 then none else some (.int k (a.tmod b))
  | .and => some (.int k (pbits .and k a b))
  | .or => some (.int k (pbits .or k a b))
  | .xor => some (.int k (pbits .xor k a b))
  | .andNot => some (.int k (pbits .andNot k a b))
  | .eql => some (.bool (a == b))
  | .neq => some (.bool (a != b))
  | .lss => some (.bool (decide (a < b)))
  | .leq => some (.bool (decide (a ≤ b)))
  | .gtr => some (.bool (decide (a > b)))
  | .geq => some (.bool (decide (a ≥ b)))
  | _ => none

/-- A text of bytes, as a value. -/
def str (l : List UInt8) : Value := .string ⟨l.toArray⟩

def pstr (op : BinOp) (a b : List UInt8) : Option Value :=
  match op with
  | .add => if a.length + b.length ≤ 9223372036854775807 then some (str (a ++ b)) else none
  | .eql => some (.bool (a == b))
  | .neq => some (.bool (!(a == b)))
  | .lss => some (.bool (Op.bytesLess a b))
  | .leq => some (.bool (Op.bytesLess a b || a == b))
  | .gtr => some (.bool (!(Op.bytesLess a b || a == b)))
  | .geq => some (.bool (!Op.bytesLess a b))
  | _ => none

def pshift (op : BinOp) (k : IntKind) (a b : Int) : Option Value :=
  if 0 ≤ b then (match op with
    | .shl => some (.int k (k.wrap (a * 2 ^ min b.toNat k.bits)))
    | .shr => some (.int k (a.fdiv (2 ^ min b.toNat k.bits)))
    | _ => none) else none

def pbin (op : BinOp) : Value → Value → Option Value
  | .int k a, .int k' b => if op = .shl ∨ op = .shr then pshift op k a b else if k = k' then pint op k a b else none
  | .string a, .string b => pstr op a.data.toList b.data.toList
  | _, _ => none

theorem pint_run {P : Program} {w : World} {op : BinOp} {t : Nat} {k : IntKind} {a b : Int} {v : Value} (hs : ¬ (op = .shl ∨ op = .shr)) (h : pint op k a b = some v) :
    (binOp op t (.int k a) (.int k b)).run P w = .ok v w := by
  cases op <;> simp [pint] at h hs <;> first
    | (subst h; simp [binOp, Op.intArith, Op.intBits, Op.intCmp, pbits]; done)
    | (obtain ⟨h0, rfl⟩ := h; simp [binOp, Op.intDiv, h0])

theorem pshift_run {P : Program} {w : World} {op : BinOp} {t : Nat} {k k' : IntKind} {a b : Int} {v : Value} (h : pshift op k a b = some v) :
    (binOp op t (.int k a) (.int k' b)).run P w = .ok v w := by
  unfold pshift at h
  split at h
  · rename_i h0
    have h1 : ¬ b < 0 := by omega
    cases op <;> simp at h <;> (subst h; simp [binOp, Op.shift, h1])
  · cases h

theorem toList_eq (s : ByteArray) : s.toList = s.data.toList := Lib.toList_data s

theorem pstr_run {P : Program} {w : World} {op : BinOp} {t : Nat} {a b : ByteArray} {v : Value} (h : pstr op a.data.toList b.data.toList = some v) :
    (binOp op t (.string a) (.string b)).run P w = .ok v w := by
  cases op <;> simp [pstr] at h
  case add =>
    obtain ⟨h0, rfl⟩ := h
    have h1 : ¬ (((a.size + b.size : Nat) : Int) > IntKind.i64.max) := by
      rw [IntKind.max_i64]
      have ha : a.data.size = a.size := rfl
      have hb : b.data.size = b.size := rfl
      omega
    have h2 : a ++ b = (⟨(a.data.toList ++ b.data.toList).toArray⟩ : ByteArray) := by
      apply ByteArray.ext
      simp
    simp only [binOp, Op.stringOp]
    rw [if_neg h1, h2]
    rfl
  all_goals
    subst h
    simp [binOp, Op.stringOp, toList_eq]

theorem pbin_run {P : Program} {w : World} {op : BinOp} {t : Nat} {a b v : Value} (h : pbin op a b = some v) : (binOp op t a b).run P w = .ok v w ∧ v.oneCell' = true := by
  unfold pbin at h
  split at h
  · split at h
    · refine ⟨pshift_run h, ?_⟩
      unfold pshift at h
      split at h
      · cases op <;> simp at h <;> (subst h; rfl)
      · cases h
    · split at h
      · rename_i hs e
        subst e
        refine ⟨pint_run hs h, ?_⟩
        cases op <;> simp [pint] at h <;> first
          | (subst h; rfl)
          | (obtain ⟨_, rfl⟩ := h; rfl)
      · cases h
  · refine ⟨pstr_run h, ?_⟩
    cases op <;> simp [pstr] at h <;> first
      | (subst h; rfl)
      | (obtain ⟨_, rfl⟩ := h; rfl)
  · cases h

theorem pbin_guard {P : Program} {w : World} {op : BinOp} {t : Nat} {x y : Operand} {a b v : Value} (h : pbin op a b = some v) : (eqGuard op t x y a b).run P w = .ok () w := by
  unfold pbin at h
  split at h
  · rw [eqGuard_at_int]; rfl
  · rw [eqGuard_at_string]; rfl
  · cases h

def punop (op : UnOp) : Value → Option Value
  | .bool b => if op = .not then some (.bool (!b)) else none
  | .int k n => match op with
    | .neg => some (.int k (k.wrap (0 - n)))
    | .xor => some (.int k (pbits .xor k (if k.signed then -1 else k.max) n))
    | _ => none
  | _ => none

/-- How long a slice is. -/
def vlen : V → Option Nat
  | .arr els => some els.length
  | .own _ _ n => some n
  | .owt _ n _ => some n
  | .val (.slice _ n _) => some n
  | _ => none

theorem vlen_slice {F : Fz} {ν : Nu} {v : Value} {u : V} (h : Rel F ν v u) {m : Nat} (hm : vlen u = some m) : ∃ A c, v = .slice A m c := by
  cases h with
  | val v hv =>
    cases v <;> simp [vlen] at hm
    subst hm
    exact ⟨_, _, rfl⟩
  | arr A n c sz els vals hn hc hm hsz hce hA hr =>
    simp [vlen] at hm
    subst hm
    subst hn
    exact ⟨_, _, rfl⟩
  | own id a n c A k hk hc hm hA hB =>
    simp [vlen] at hm
    subst hm
    exact ⟨_, _, rfl⟩
  | owt id n c T A k hk hc hm hA hB hT =>
    simp [vlen] at hm
    subst hm
    exact ⟨_, _, rfl⟩
  | _ => simp [vlen] at hm

def isStr (P : Program) (t : Nat) : Bool := match P.underlying t with | some .string => true | _ => false
theorem isStr_und {P : Program} {t : Nat} (h : isStr P t = true) : P.underlying t = some .string := by
  unfold isStr at h
  split at h
  · assumption
  · cases h

section
variable {P : Program} {B : Gd} {σ : Nat → V} {M : Hp} {id : Nat} {K : V → Hp → Prop} {dst : Option Nat} {ty : Nat} {pos : String} {after : Array Edge} {guard : Option (Nat × Bool)}

theorem w_binOp {op : BinOp} {t t' : Nat} {x y : Operand} {a b v : Value} (hx : ev σ x = .val a) (hy : ev σ y = .val b) (h : pbin op a b = some v) (hK : K (.val v) M) :
    OpW P B ⟨dst, .binOp op t x y t', ty, pos, after, guard⟩ σ M id K := by
  refine opw_of hK fun ac w F ν _ hm => ?_
  have h1 := ev_rel hm x
  have h2 := ev_rel hm y
  rw [hx] at h1
  rw [hy] at h2
  have e1 := rel_val h1
  have e2 := rel_val h2
  obtain ⟨hr, hc⟩ := pbin_run (P := P) (w := w) (t := t) h
  exact ⟨v, by simp [execOp, e1, e2, pbin_guard (P := P) (w := w) (t := t) (x := x) (y := y) h, hr], .val v hc⟩

theorem w_eqbool {t t' : Nat} {x y : Operand} {a b : Bool} (ht : P.underlying t = some .bool) (hx : ev σ x = .val (.bool a)) (hy : ev σ y = .val (.bool b)) (hK : K (.val (.bool (a == b))) M) :
    OpW P B ⟨dst, .binOp .eql t x y t', ty, pos, after, guard⟩ σ M id K := by
  refine opw_of hK fun ac w F ν _ hm => ?_
  have h1 := ev_rel hm x
  have h2 := ev_rel hm y
  rw [hx] at h1
  rw [hy] at h2
  have e1 := rel_val h1
  have e2 := rel_val h2
  exact ⟨_, by simp [execOp, e1, e2, eqGuard_at_bool, run_eql_bool w t a b ht], .val _ rfl⟩

theorem w_unOp {op : UnOp} {t : Nat} {x : Operand} {a v : Value} (hx : ev σ x = .val a) (h : punop op a = some v) (hK : K (.val v) M) :
    OpW P B ⟨dst, .unOp op t x, ty, pos, after, guard⟩ σ M id K := by
  refine opw_of hK fun ac w F ν _ hm => ?_
  have h1 := ev_rel hm x
  rw [hx] at h1
  have e1 := rel_val h1
  refine ⟨v, ?_, ?_⟩
  · unfold punop at h
    split at h
    · split at h
      · rename_i e
        subst e
        cases h
        simp [execOp, e1, Op.unary]
      · cases h
    · cases op <;> simp at h <;> (subst h; simp [execOp, e1, Op.unary, Op.intArith, Op.intBits, pbits])
    · cases h
  · refine .val v ?_
    unfold punop at h
    split at h
    · split at h
      · cases h; rfl
      · cases h
    · cases op <;> simp at h <;> (subst h; rfl)
    · cases h

theorem w_fieldAddr {s f d ft n : Nat} {x : Operand} {u : V} (hf : fOf P s f = some (d, ft)) (hs : szOf P ft = some n) (hn : n ≠ 0)
    (h : (∃ cs, ev σ x = .iptr cs ∧ u = .iptr (cs.drop d)) ∨ (∃ i j o, ev σ x = .ptr i j o ∧ u = .ptr i j (o + d))) (hK : K u M) :
    OpW P B ⟨dst, .fieldAddr s x f, ty, pos, after, guard⟩ σ M id K := by
  refine opw_of hK fun ac w F ν _ hm => ?_
  have hu : ∃ fs fd, P.underlying s = some (.struct fs) ∧ fs[f]? = some fd ∧ fd.offset = d ∧ fd.type = ft := by
    unfold fOf at hf
    cases hu : P.underlying s with
    | none => simp [hu] at hf
    | some t =>
      cases t <;> simp [hu] at hf
      rename_i fs
      obtain ⟨x, hx, h1, h2⟩ := hf
      exact ⟨fs, x, rfl, hx, h1, h2⟩
  obtain ⟨fs, fd, hu, hfd, rfl, rfl⟩ := hu
  have hplace : ∀ b o, (fieldPlace ⟨b, o, none⟩ fd).run P w = .ok ⟨b, o + fd.offset, none⟩ w := fun b o => by
    simp [fieldPlace, szOf_run hs, hn, Addr.add_lit]
  have h1 := ev_rel hm x
  rcases h with ⟨cs, hx, rfl⟩ | ⟨i, j, o, hx, rfl⟩
  · rw [hx] at h1
    generalize hv : ac.eval x = v at h1
    cases h1 with
    | iptr b o cs' vals hce hf' hr' =>
      refine ⟨.pointer (some ⟨b, o + fd.offset, none⟩), by simp [execOp, hv, Instr.fieldAt, run_underlying hu, hfd, Instr.sureAddr, hplace], ?_⟩
      refine .iptr b _ _ (fun j => vals (fd.offset + j)) (fun j u hj => ?_) (fun j u hj => ?_) (fun j u hj => ?_) <;> rw [List.getElem?_drop] at hj
      · exact hce _ _ hj
      · rw [Nat.add_assoc]; exact hf' _ _ hj
      · exact hr' _ _ hj
  · rw [hx] at h1
    generalize hv : ac.eval x = v at h1
    cases h1 with
    | ptr _ _ _ k hk =>
      refine ⟨.pointer (some ⟨k.b, j * k.sz + o + fd.offset, none⟩), by simp [execOp, hv, Instr.fieldAt, run_underlying hu, hfd, Instr.sureAddr, hplace], ?_⟩
      rw [Nat.add_assoc]
      exact .ptr i j (o + fd.offset) k hk

theorem w_field {s f d ft n : Nat} {x : Operand} {cs : List V} {ag : Bool} {u : V} (hf : fOf P s f = some (d, ft)) (hs : szOf P ft = some n) (hg : isAg P ft = some ag) (hx : ev σ x = .agg cs) (hu : vload ag n (cs.drop d) = some u) (hK : K u M) :
    OpW P B ⟨dst, .field s x f, ty, pos, after, guard⟩ σ M id K := by
  refine opw_of hK fun ac w F ν _ hm => ?_
  have hun : ∃ fs fd, P.underlying s = some (.struct fs) ∧ fs[f]? = some fd ∧ fd.offset = d ∧ fd.type = ft := by
    unfold fOf at hf
    cases hu : P.underlying s with
    | none => simp [hu] at hf
    | some t =>
      cases t <;> simp [hu] at hf
      rename_i fs
      obtain ⟨x, hx, h1, h2⟩ := hf
      exact ⟨fs, x, rfl, hx, h1, h2⟩
  obtain ⟨fs, fd, hun, hfd, rfl, rfl⟩ := hun
  have h1 := ev_rel hm x
  rw [hx] at h1
  generalize hv : ac.eval x = v at h1
  cases h1 with
  | agg vs _ hl hce hr =>
    unfold vload at hu
    cases ag with
    | true =>
      simp only [if_true] at hu
      split at hu
      · rename_i hn
        simp only [Option.some.injEq] at hu
        subst hu
        refine ⟨.agg ((vs.drop fd.offset).take n).toArray, ?_, ?_⟩
        · simp [execOp, hv, Instr.field, run_underlying hun, hfd, asAgg, part, isAg_run hg, szOf_run hs]
        · refine .agg _ _ (by simp [hl]) (fun j u hj => ?_) (fun j v u hj hu => ?_)
          · rw [List.getElem?_take] at hj
            split at hj
            · rw [List.getElem?_drop] at hj
              exact hce _ _ hj
            · cases hj
          · rw [List.getElem?_take] at hu hj
            split at hu
            · rename_i hjn
              rw [if_pos hjn] at hj
              rw [List.getElem?_drop] at hu hj
              exact hr _ _ _ hj hu
            · cases hu
      · cases hu
    | false =>
      simp only [Bool.false_eq_true, if_false] at hu
      have hu' : cs[fd.offset]? = some u := by
        rw [List.head?_eq_getElem?, List.getElem?_drop] at hu
        simpa using hu
      obtain ⟨y, hy⟩ := get_of_length hl hu'
      exact ⟨y, by simp [execOp, hv, Instr.field, run_underlying hun, hfd, asAgg, part, isAg_run hg, hy], hr _ _ _ hy hu'⟩

theorem w_lenStr {x : Operand} {t : Nat} {s : ByteArray} (ht : P.underlying t = some .string) (hx : ev σ x = .val (.string s)) (hK : K (.val (.int .i64 s.data.toList.length)) M) :
    OpW P B ⟨dst, .call ⟨.builtin .len, #[x], #[t]⟩, ty, pos, after, guard⟩ σ M id K := by
  refine opw_of hK fun ac w F ν _ hm => ?_
  have h1 := ev_rel hm x
  rw [hx] at h1
  have e1 := rel_val h1
  exact ⟨.int .i64 s.data.toList.length, by simp [execOp, resolve, invoke, builtin, e1, Builtin.len_, run_underlying ht, goInt], .val _ rfl⟩

theorem w_len {x : Operand} {t e n : Nat} (ht : elOf P t = some e) (hx : vlen (ev σ x) = some n) (hK : K (.val (.int .i64 n)) M) :
    OpW P B ⟨dst, .call ⟨.builtin .len, #[x], #[t]⟩, ty, pos, after, guard⟩ σ M id K := by
  refine opw_of hK fun ac w F ν _ hm => ?_
  obtain ⟨A, c, e1⟩ := vlen_slice (ev_rel hm x) hx
  exact ⟨.int .i64 n, by simp [execOp, resolve, invoke, builtin, e1, Builtin.len_, run_underlying (elOf_und ht), goInt], .val _ rfl⟩
end
end Go.Ka
