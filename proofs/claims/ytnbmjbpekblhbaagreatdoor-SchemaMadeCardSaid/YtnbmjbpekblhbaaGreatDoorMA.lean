/- Plain words for what the program's operations say: no program, no memory. Abstract values for walks: what a value reads as, apart from where it lies. The walk's own objects, the cells that nobody writes, and what a step of the machine leaves of them. One operation: what it hands back, as an abstract value, and what it leaves of the walk's own objects. Operations, the second part: arithmetic, comparisons, indexes, lengths, cuts. Operations, the third part: places in slices, cuts, stores, new variables, structs. Operations, the fourth part: what writes, and what makes memory. Operations, the fifth part: structs and slices that are built, conversions, append. Operations, the sixth part: what a slice holds, as a list; slices that are built; append; bytes as a text. Operations, the seventh part: slices that are written out; bytes as a text. Abstract states; what a step does where more objects are known; operations in their places; the text's order. Every order of a region. Values under other names; a call's contract, and what a call does in its caller's state. Bodies: what is left of one is a list; regions, branches, loops; where states are told anew; a function's contract out of its body. An object that is written no more; a contract out of a body; a contract by other names; a call that is lent an object. -/
import Derived.WalkKit
import Derived.Lib.Strings
import Derived.WalkLawsBesides
import Derived.Lib.ConvBytes
import Derived.Deep.LoopGhost
import Derived.Still
import Derived.Orders
set_option linter.all false
namespace Go.Ka

abbrev Str := List UInt8

def inR (z : Int) : Bool := decide (-9223372036854775808 ≤ z) && decide (z < 9223372036854775808)
def fitB (b n : Nat) : Bool := decide (n * b ≤ 140737488355328) && decide (n ≤ 9223372036854775807)

/-- What holds, or nothing. -/
def okO {α : Type} (c : Bool) (x : α) : Option α := if c = true then some x else none
def addO (a b : Int) : Option Int := okO (inR (a + b)) (a + b)
def subO (a b : Int) : Option Int := okO (inR (a - b)) (a - b)
def mulO (a b : Int) : Option Int := okO (inR (a * b)) (a * b)
def quoO (a b : Int) : Option Int := okO (!decide (b = 0) && inR (a.tdiv b)) (a.tdiv b)
def remO (a b : Int) : Option Int := okO (!decide (b = 0)) (a.tmod b)
def catO (a b : Str) : Option Str := okO (decide (a.length + b.length ≤ 9223372036854775807)) (a ++ b)
/-- A text's byte, a list's element, by a place. -/
def lgetO {α : Type} (l : List α) (i : Int) : Option α := if 0 ≤ i then l[i.toNat]? else none
def lsubO {α : Type} (l : List α) (a b : Int) : Option (List α) := okO (decide (0 ≤ a) && decide (a ≤ b) && decide (b ≤ l.length)) ((l.drop a.toNat).take (b.toNat - a.toNat))
def lsetO {α : Type} (l : List α) (i : Int) (x : α) : Option (List α) := okO (decide (0 ≤ i) && decide (i < l.length)) (l.set i.toNat x)
def appO {α : Type} (b : Nat) (x y : List α) : Option (List α) := okO (fitB b (x.length + y.length)) (x ++ y)
def bytO (s : Str) : Option Str := okO (decide (s.length ≤ 9223372036854775807)) s
def toU8 (n : Int) : UInt8 := UInt8.ofNat (n % 256).toNat
def guardO {α : Type} (c : Bool) (x : Option α) : Option α := if c = true then x else none

section
variable {α : Type}
theorem okO_inv {c : Bool} {x y : α} (h : okO c x = some y) : c = true ∧ x = y := by
  unfold okO at h
  split at h
  · rename_i hc; exact ⟨hc, by simpa using h⟩
  · cases h
theorem okO_eq {c : Bool} {x : α} (h : c = true) : okO c x = some x := if_pos h
theorem bindE {β : Type} {o : Option α} {f : α → Option β} {r : β} (h : o.bind f = some r) : ∃ x, o = some x ∧ f x = some r := by
  cases o with
  | none => cases h
  | some x => exact ⟨x, rfl, h⟩
theorem condT {b : Bool} {x y : Option α} {r : α} (hb : b = true) (h : (bif b then x else y) = some r) : x = some r := by subst hb; exact h
theorem condF {b : Bool} {x y : Option α} {r : α} (hb : b = false) (h : (bif b then x else y) = some r) : y = some r := by subst hb; exact h
theorem someE {x y : α} (h : some x = some y) : x = y := by cases h; rfl
theorem inR_iff {z : Int} : inR z = true ↔ -9223372036854775808 ≤ z ∧ z < 9223372036854775808 := by simp [inR]
theorem addO_eq {a b : Int} (h : -9223372036854775808 ≤ a + b ∧ a + b < 9223372036854775808) : addO a b = some (a + b) := okO_eq (inR_iff.2 h)
theorem subO_eq {a b : Int} (h : -9223372036854775808 ≤ a - b ∧ a - b < 9223372036854775808) : subO a b = some (a - b) := okO_eq (inR_iff.2 h)
theorem mulO_eq {a b : Int} (h : -9223372036854775808 ≤ a * b ∧ a * b < 9223372036854775808) : mulO a b = some (a * b) := okO_eq (inR_iff.2 h)
theorem catO_eq {a b : Str} (h : a.length + b.length ≤ 9223372036854775807) : catO a b = some (a ++ b) := okO_eq (by simpa using h)
theorem fitB_iff {b n : Nat} : fitB b n = true ↔ n * b ≤ 140737488355328 ∧ n ≤ 9223372036854775807 := by simp [fitB]
theorem appO_eq {b : Nat} {x y : List α} (h : (x.length + y.length) * b ≤ 140737488355328 ∧ x.length + y.length ≤ 9223372036854775807) : appO b x y = some (x ++ y) := okO_eq (fitB_iff.2 h)
theorem lgetO_nat {l : List α} {i : Nat} : lgetO l (i : Int) = l[i]? := by simp [lgetO]
theorem lgetO_some {l : List α} {i : Int} {x : α} (h : lgetO l i = some x) : 0 ≤ i ∧ l[i.toNat]? = some x ∧ i.toNat < l.length := by
  unfold lgetO at h
  split at h
  · rename_i h0; exact ⟨h0, h, (List.getElem?_eq_some_iff.1 h).1⟩
  · cases h
theorem lsubO_eq {l : List α} {a b : Int} (h : 0 ≤ a ∧ a ≤ b ∧ b ≤ l.length) : lsubO l a b = some ((l.drop a.toNat).take (b.toNat - a.toNat)) := okO_eq (by simpa [and_assoc] using h)
theorem lsetO_eq {l : List α} {i : Int} {x : α} (h : 0 ≤ i ∧ i < l.length) : lsetO l i x = some (l.set i.toNat x) := okO_eq (by simpa using h)
theorem bytO_eq {s : Str} (h : s.length ≤ 9223372036854775807) : bytO s = some s := okO_eq (by simpa using h)
end
def lenO (l : Str) : Option Unit := okO (decide (l.length ≤ 9223372036854775807)) ()
end Go.Ka
namespace Go.Ka

/-- What a value says: a plain value, a slice that nobody writes any more, a pointer into one, a struct, several results, a closure, a view of an object of the walk's own, a pointer into one, an interface value that is not nil; a slice of texts that nobody writes any more and that has no room behind it (tst). -/
inductive V where
  | any
  | val (v : Value)
  | arr (els : List (List V))
  | iptr (cs : List V)
  | agg (cs : List V)
  | tup (vs : List V)
  | fn (f : Nat) (caps : List V)
  | own (id a n : Nat)
  | ptr (id i off : Nat)
  | nz
  | sp (id : Nat) (T : TypeId)
  | ps (id : Nat) (T : TypeId)
  | ub
  | pp
  | owt (id n : Nat) (T : TypeId)
  | tst (l : List (List UInt8))

instance : Inhabited V := ⟨.any⟩

/-- Cells that nobody writes any more. -/
abbrev Fz := Nat → Nat → Option Value
def Fz.le (F F' : Fz) : Prop := ∀ b o v, F b o = some v → F' b o = some v
/-- Where an object of the walk's own lies: its block, the cells of an element, the block's cells; or it has no block yet. -/
structure Blk where
  b : Nat
  sz : Nat
  cap : Nat
  vt : Bool
  ty : TypeId
abbrev Nu := Nat → Option Blk
def Nu.le (ν ν' : Nu) : Prop := ∀ id k, ν id = some k → ν' id = some k

theorem Fz.le_refl (F : Fz) : Fz.le F F := fun _ _ _ h => h
theorem Nu.le_refl (ν : Nu) : Nu.le ν ν := fun _ _ h => h
theorem Fz.le_trans {F F' F'' : Fz} (h : Fz.le F F') (h' : Fz.le F' F'') : Fz.le F F'' := fun _ _ _ x => h' _ _ _ (h _ _ _ x)
theorem Nu.le_trans {F F' F'' : Nu} (h : Nu.le F F') (h' : Nu.le F' F'') : Nu.le F F'' := fun _ _ x => h' _ _ (h _ _ x)

/-- A value that one cell may hold. -/
def V.cell : V → Bool
  | .any | .agg _ | .tup _ => false
  | _ => true

inductive Rel (F : Fz) (ν : Nu) : Value → V → Prop
  | any (v : Value) : Rel F ν v .any
  | val (v : Value) (h : v.oneCell' = true) : Rel F ν v (.val v)
  | arr (A : Option Addr) (n c sz : Nat) (els : List (List V)) (vals : Nat → Nat → Value) (hn : els.length = n) (hc : n ≤ c) (hm : c ≤ maxLen)
      (hsz : ∀ (i : Nat) (el : List V), els[i]? = some el → el.length = sz) (hce : ∀ (i : Nat) (el : List V) (j : Nat) (u : V), els[i]? = some el → el[j]? = some u → u.cell = true)
      (hA : n ≠ 0 → ∃ b o, A = some ⟨b, o, none⟩ ∧ ∀ (i : Nat) (el : List V) (j : Nat) (u : V), els[i]? = some el → el[j]? = some u → F b (o + i * sz + j) = some (vals i j))
      (hr : ∀ (i : Nat) (el : List V) (j : Nat) (u : V), els[i]? = some el → el[j]? = some u → Rel F ν (vals i j) u) : Rel F ν (.slice A n c) (.arr els)
  | iptr (b o : Nat) (cs : List V) (vals : Nat → Value) (hce : ∀ (j : Nat) (u : V), cs[j]? = some u → u.cell = true) (h : ∀ (j : Nat) (u : V), cs[j]? = some u → F b (o + j) = some (vals j))
      (hr : ∀ (j : Nat) (u : V), cs[j]? = some u → Rel F ν (vals j) u) : Rel F ν (.pointer (some ⟨b, o, none⟩)) (.iptr cs)
  | agg (vs : List Value) (cs : List V) (hl : vs.length = cs.length) (hce : ∀ (j : Nat) (u : V), cs[j]? = some u → u.cell = true)
      (hr : ∀ (j : Nat) (v : Value) (u : V), vs[j]? = some v → cs[j]? = some u → Rel F ν v u) : Rel F ν (.agg vs.toArray) (.agg cs)
  | tup (vs : List Value) (cs : List V) (hl : vs.length = cs.length) (hr : ∀ (j : Nat) (v : Value) (u : V), vs[j]? = some v → cs[j]? = some u → Rel F ν v u) : Rel F ν (.tuple vs.toArray) (.tup cs)
  | fn (f : Nat) (vs : List Value) (cs : List V) (hl : vs.length = cs.length) (hr : ∀ (j : Nat) (v : Value) (u : V), vs[j]? = some v → cs[j]? = some u → Rel F ν v u) :
      Rel F ν (.func (.func f) #[] vs.toArray) (.fn f cs)
  | own (id a n c : Nat) (A : Option Addr) (k : Blk) (hk : ν id = some k) (hc : n ≤ c) (hm : c ≤ maxLen) (hA : c ≠ 0 → A = some ⟨k.b, a * k.sz, none⟩ ∧ (a + c) * k.sz ≤ k.cap) (hB : A = none ∨ ∃ off, A = some ⟨k.b, off, none⟩ ∧ k.vt = false) :
      Rel F ν (.slice A n c) (.own id a n)
  | ptr (id i off : Nat) (k : Blk) (hk : ν id = some k) : Rel F ν (.pointer (some ⟨k.b, i * k.sz + off, none⟩)) (.ptr id i off)
  | nz (t : TypeId) (v : Value) : Rel F ν (.iface t v) .nz
  | sp (id : Nat) (T : TypeId) (k : Blk) (p : Option Addr) (hk : ν id = some k) (hT : k.ty = T ∧ k.cap = 2) (hp : p = none ∨ p = some ⟨k.b, 0, none⟩) : Rel F ν (.pointer p) (.sp id T)
  | ps (id : Nat) (T : TypeId) (k : Blk) (hk : ν id = some k) (hT : k.ty = T) : Rel F ν (.pointer (some ⟨k.b, 0, none⟩)) (.ps id T)
  | ub (b : Bool) : Rel F ν (.bool b) .ub
  | pp (p : Option Addr) : Rel F ν (.pointer p) .pp
  | owt (id n c : Nat) (T : TypeId) (A : Option Addr) (k : Blk) (hk : ν id = some k) (hc : n ≤ c) (hm : c ≤ maxLen) (hA : c ≠ 0 → A = some ⟨k.b, 0 * k.sz, none⟩ ∧ (0 + c) * k.sz ≤ k.cap) (hB : A = none ∨ ∃ off, A = some ⟨k.b, off, none⟩ ∧ k.vt = false) (hT : k.vt = false → k.ty = T) :
      Rel F ν (.slice A n c) (.owt id n T)
  | tst (A : Option Addr) (n : Nat) (l : List (List UInt8)) (hn : l.length = n) (hm : n ≤ maxLen) (hA : n ≠ 0 → ∃ b o, A = some ⟨b, o, none⟩ ∧ ∀ (i : Nat) (s : List UInt8), l[i]? = some s → F b (o + i) = some (.string ⟨s.toArray⟩)) : Rel F ν (.slice A n n) (.tst l)

theorem Rel.mono {F F' : Fz} {ν ν' : Nu} (hF : Fz.le F F') (hν : Nu.le ν ν') {v : Value} {u : V} (h : Rel F ν v u) : Rel F' ν' v u := by
  induction h with
  | any v => exact .any v
  | val v h => exact .val v h
  | arr A n c sz els vals hn hc hm hsz hce hA _ ih =>
    refine .arr A n c sz els vals hn hc hm hsz hce (fun h0 => ?_) ih
    obtain ⟨b, o, rfl, h⟩ := hA h0
    exact ⟨b, o, rfl, fun i el j u h1 h2 => hF _ _ _ (h i el j u h1 h2)⟩
  | iptr b o cs vals hce h _ ih => exact .iptr b o cs vals hce (fun j u hj => hF _ _ _ (h j u hj)) ih
  | agg vs cs hl hce _ ih => exact .agg vs cs hl hce ih
  | tup vs cs hl _ ih => exact .tup vs cs hl ih
  | fn f vs cs hl _ ih => exact .fn f vs cs hl ih
  | own id a n c A k hk hc hm hA hB => exact .own id a n c A k (hν _ _ hk) hc hm hA hB
  | ptr id i off k hk => exact .ptr id i off k (hν _ _ hk)
  | nz t v => exact .nz t v
  | sp id T k p hk hT hp => exact .sp id T k p (hν _ _ hk) hT hp
  | ps id T k hk hT => exact .ps id T k (hν _ _ hk) hT
  | ub b => exact .ub b
  | pp p => exact .pp p
  | owt id n c T A k hk hc hm hA hB hT => exact .owt id n c T A k (hν _ _ hk) hc hm hA hB hT
  | tst A n l hn hm hA =>
    refine .tst A n l hn hm fun h0 => ?_
    obtain ⟨b, o, rfl, h⟩ := hA h0
    exact ⟨b, o, rfl, fun i s hs => hF _ _ _ (h i s hs)⟩

theorem Rel.oneCell {F : Fz} {ν : Nu} {v : Value} {u : V} (h : Rel F ν v u) (hu : u.cell = true) : v.oneCell' = true := by
  cases h <;> first | rfl | assumption | (simp [V.cell] at hu)

/-- The objects that a value names. -/
inductive V.names : V → Nat → Prop
  | arr {els : List (List V)} {i j : Nat} {el : List V} {u : V} {id : Nat} (h1 : els[i]? = some el) (h2 : el[j]? = some u) (h : u.names id) : V.names (.arr els) id
  | iptr {cs : List V} {j : Nat} {u : V} {id : Nat} (h2 : cs[j]? = some u) (h : u.names id) : V.names (.iptr cs) id
  | agg {cs : List V} {j : Nat} {u : V} {id : Nat} (h2 : cs[j]? = some u) (h : u.names id) : V.names (.agg cs) id
  | tup {cs : List V} {j : Nat} {u : V} {id : Nat} (h2 : cs[j]? = some u) (h : u.names id) : V.names (.tup cs) id
  | fn {f : Nat} {cs : List V} {j : Nat} {u : V} {id : Nat} (h2 : cs[j]? = some u) (h : u.names id) : V.names (.fn f cs) id
  | own {id a n : Nat} : V.names (.own id a n) id
  | ptr {id i off : Nat} : V.names (.ptr id i off) id
  | sp {id : Nat} {T : TypeId} : V.names (.sp id T) id
  | ps {id : Nat} {T : TypeId} : V.names (.ps id T) id
  | owt {id n : Nat} {T : TypeId} : V.names (.owt id n T) id

theorem get_of_length {α β : Type} {l : List α} {m : List β} (h : l.length = m.length) {j : Nat} {x : β} (hj : m[j]? = some x) : ∃ y, l[j]? = some y := by
  have := (List.getElem?_eq_some_iff.1 hj).1
  exact ⟨l[j], List.getElem?_eq_getElem (by omega)⟩

theorem Rel.named {F : Fz} {ν : Nu} {v : Value} {u : V} (h : Rel F ν v u) : ∀ id, u.names id → ∃ k, ν id = some k := by
  induction h with
  | any v => intro id h; cases h
  | val v _ => intro id h; cases h
  | arr A n c sz els vals hn hc hm hsz hce hA _ ih => intro id h; cases h with | arr h1 h2 h => exact ih _ _ _ _ h1 h2 _ h
  | iptr b o cs vals hce h _ ih => intro id h; cases h with | iptr h2 h => exact ih _ _ h2 _ h
  | agg vs cs hl hce _ ih => intro id h; cases h with | agg h2 h => obtain ⟨y, hy⟩ := get_of_length hl h2; exact ih _ _ _ hy h2 _ h
  | tup vs cs hl _ ih => intro id h; cases h with | tup h2 h => obtain ⟨y, hy⟩ := get_of_length hl h2; exact ih _ _ _ hy h2 _ h
  | fn f vs cs hl _ ih => intro id h; cases h with | fn h2 h => obtain ⟨y, hy⟩ := get_of_length hl h2; exact ih _ _ _ hy h2 _ h
  | own id a n c A k hk hc hm hA hB => intro id h; cases h; exact ⟨k, hk⟩
  | ptr id i off k hk => intro id h; cases h; exact ⟨k, hk⟩
  | nz t v => intro id h; cases h
  | sp id T k p hk hT hp => intro id h; cases h; exact ⟨k, hk⟩
  | ps id T k hk hT => intro id h; cases h; exact ⟨k, hk⟩
  | ub b => intro id h; cases h
  | pp p => intro id h; cases h
  | owt id n c T A k hk hc hm hA hB hT => intro id h; cases h; exact ⟨k, hk⟩
  | tst A n l hn hm hA => intro id h; cases h

/-- What names old objects alone reads the same where new ones are forgotten. -/
theorem Rel.less {F : Fz} {ν ν' : Nu} {v : Value} {u : V} (h : Rel F ν' v u) (hs : ∀ id, u.names id → ν id = ν' id) : Rel F ν v u := by
  induction h with
  | any v => exact .any v
  | val v h => exact .val v h
  | arr A n c sz els vals hn hc hm hsz hce hA _ ih => exact .arr A n c sz els vals hn hc hm hsz hce hA fun i el j u h1 h2 => ih _ _ _ _ h1 h2 fun id hid => hs id (.arr h1 h2 hid)
  | iptr b o cs vals hce h _ ih => exact .iptr b o cs vals hce h fun j u hj => ih _ _ hj fun id hid => hs id (.iptr hj hid)
  | agg vs cs hl hce _ ih => exact .agg vs cs hl hce fun j v u h1 h2 => ih _ _ _ h1 h2 fun id hid => hs id (.agg h2 hid)
  | tup vs cs hl _ ih => exact .tup vs cs hl fun j v u h1 h2 => ih _ _ _ h1 h2 fun id hid => hs id (.tup h2 hid)
  | fn f vs cs hl _ ih => exact .fn f vs cs hl fun j v u h1 h2 => ih _ _ _ h1 h2 fun id hid => hs id (.fn h2 hid)
  | own id a n c A k hk hc hm hA hB => exact .own id a n c A k ((hs id .own).trans hk) hc hm hA hB
  | ptr id i off k hk => exact .ptr id i off k ((hs id .ptr).trans hk)
  | nz t v => exact .nz t v
  | sp id T k p hk hT hp => exact .sp id T k p ((hs id .sp).trans hk) hT hp
  | ps id T k hk hT => exact .ps id T k ((hs id .ps).trans hk) hT
  | ub b => exact .ub b
  | pp p => exact .pp p
  | owt id n c T A k hk hc hm hA hB hT => exact .owt id n c T A k ((hs id .owt).trans hk) hc hm hA hB hT
  | tst A n l hn hm hA => exact .tst A n l hn hm hA

end Go.Ka
namespace Go.Ka
open Go.RowKit

structure Ob where
  els : List (List V)
  sz : Nat

abbrev Hp := Nat → Option Ob
def setM (M : Hp) (id : Nat) (o : Option Ob) : Hp := fun x => bif Nat.beq x id then o else M x
theorem setM_at (M : Hp) (id x : Nat) (o : Option Ob) : setM M id o x = if x = id then o else M x := by
  show (bif Nat.beq x id then _ else _) = _
  by_cases h : x = id
  · rw [h]; simp
  · have : Nat.beq x id = false := by
      cases hb : Nat.beq x id with
      | false => rfl
      | true => exact absurd (Nat.eq_of_beq_eq_true hb) h
    simp [this, h]
theorem setM_same (M : Hp) (id : Nat) (o : Option Ob) : setM M id o id = o := by simp [setM_at]
theorem setM_ne {M : Hp} {id x : Nat} {o : Option Ob} (h : x ≠ id) : setM M id o x = M x := by simp [setM_at, h]
def setN (ν : Nu) (id : Nat) (k : Blk) : Nu := fun x => if x = id then some k else ν x
def addF (F : Fz) (b : Nat) (f : Nat → Option Value) : Fz := fun x o => if x = b then f o else F x o

/-- Where a call began: the world, what was frozen, the blocks that it may turn. -/
structure Gd where
  w : World
  F : Fz
  D : Nat → Prop

/-- The object's elements lie at the head of its block. -/
def RealAt (F : Fz) (ν : Nu) (w : World) (o : Ob) (k : Blk) : Prop :=
  ∃ cur ty fr, w.heap[k.b]? = some (.cells cur ty fr) ∧ (cur.size = k.cap ∧ ty = k.ty) ∧ (∀ x, x < k.cap → ¬ (fr.1 ≤ x ∧ x < fr.2)) ∧ k.sz = o.sz ∧
    (∀ (i : Nat) (el : List V), o.els[i]? = some el → el.length = o.sz) ∧ o.els.length * o.sz ≤ k.cap ∧
    ∀ (i : Nat) (el : List V) (j : Nat) (u : V), o.els[i]? = some el → el[j]? = some u → u.cell = true ∧ ∃ v, cur[i * o.sz + j]? = some v ∧ Rel F ν v u

/-- An object: in its block, or, while it has none, without elements. -/
def ObAt (F : Fz) (ν : Nu) (w : World) (o : Ob) (k : Blk) : Prop :=
  (k.vt = false ∧ RealAt F ν w o k) ∨ (k.vt = true ∧ k.cap = 0 ∧ k.sz = o.sz ∧ o.els = [])

section
variable {F F' : Fz} {ν ν' : Nu} {w w' : World} {o : Ob} {k : Blk}
theorem ObAt.real (h : ObAt F ν w o k) {i : Nat} {el : List V} (he : o.els[i]? = some el) : k.vt = false ∧ RealAt F ν w o k := by
  rcases h with h | ⟨_, _, _, h⟩
  · exact h
  · rw [h] at he; simp at he
theorem ObAt.realV (h : ObAt F ν w o k) (hv : k.vt = false) : RealAt F ν w o k := by
  rcases h with h | ⟨h, _⟩
  · exact h.2
  · rw [hv] at h; cases h
theorem ObAt.szEq (h : ObAt F ν w o k) : k.sz = o.sz := by
  rcases h with ⟨_, _, _, _, _, _, _, h, _⟩ | ⟨_, _, h, _⟩ <;> exact h
theorem ObAt.lens (h : ObAt F ν w o k) : ∀ (i : Nat) (el : List V), o.els[i]? = some el → el.length = o.sz := fun i el he => by
  obtain ⟨_, _, _, _, _, _, _, _, h, _⟩ := h.real he
  exact h i el he
theorem ObAt.fits (h : ObAt F ν w o k) : o.els.length * o.sz ≤ k.cap := by
  rcases h with ⟨_, _, _, _, _, _, _, _, _, h, _⟩ | ⟨_, _, _, h⟩
  · exact h
  · rw [h]; simp
theorem ObAt.els (h : ObAt F ν w o k) : ∀ (i : Nat) (el : List V) (j : Nat) (u : V), o.els[i]? = some el → el[j]? = some u → u.cell = true ∧ ∃ v, w.cell? ⟨k.b, i * o.sz + j, none⟩ = some v ∧ Rel F ν v u := fun i el j u he hj => by
  obtain ⟨_, cur, ty, fr, h1, _, _, _, _, _, h7⟩ := h.real he
  obtain ⟨hc, v, hv, hr⟩ := h7 i el j u he hj
  exact ⟨hc, v, by simp [World.cell?, h1, hv], hr⟩

theorem RealAt.mono (h : RealAt F ν w o k) (hF : Fz.le F F') (hN : Nu.le ν ν') (hw : w'.heap[k.b]? = w.heap[k.b]?) : RealAt F' ν' w' o k := by
  obtain ⟨cur, ty, fr, h1, ⟨h2, gty⟩, h3, h4, h5, h6, h7⟩ := h
  refine ⟨cur, ty, fr, hw.trans h1, ⟨h2, gty⟩, h3, h4, h5, h6, fun i el j u a b => ?_⟩
  obtain ⟨hc, v, hv, hr⟩ := h7 i el j u a b
  exact ⟨hc, v, hv, hr.mono hF hN⟩
theorem ObAt.mono (h : ObAt F ν w o k) (hF : Fz.le F F') (hN : Nu.le ν ν') (hw : k.vt = false → w'.heap[k.b]? = w.heap[k.b]?) : ObAt F' ν' w' o k := by
  rcases h with ⟨h1, h⟩ | h
  · exact .inl ⟨h1, h.mono hF hN (hw h1)⟩
  · exact .inr h
end

/-- Cells that stand fast from the beginning: the program's own tables. -/
class Tab where
  T : Fz
  H : Nat → Option Obj
  hd : ∀ b o, H b = some o → ∃ x v, T b x = some v

variable [Tab]

structure Bel (B : Gd) (w : World) : Prop where
  os : w.os = B.w.os
  tape : w.tape = B.w.tape
  output : w.output = B.w.output
  size : B.w.heap.size ≤ w.heap.size
  block : ∀ b, b < B.w.heap.size → ¬ B.D b → w.heap[b]? = B.w.heap[b]?

/-- B: where the call began. -/
structure Ok (B : Gd) (F : Fz) (ν : Nu) (M : Hp) (w : World) : Prop where
  fz : ∀ b o v, F b o = some v → w.cell? ⟨b, o, none⟩ = some v
  ob : ∀ id o, M id = some o → ∃ k, ν id = some k ∧ ObAt F ν w o k ∧ (k.vt = false → ∀ x, F k.b x = none)
  inj : ∀ id id' o o' k k', M id = some o → M id' = some o' → id ≠ id' → ν id = some k → ν id' = some k' → k.vt = false → k'.vt = false → k.b ≠ k'.b
  below : Bel B w
  live : ∀ id o k, M id = some o → ν id = some k → k.vt = false → B.D k.b ∨ B.w.heap.size ≤ k.b
  tab : Fz.le Tab.T F ∧ ∀ b o, Tab.H b = some o → w.heap[b]? = some o
  ice : ∀ b o, b < B.w.heap.size → ¬ B.D b → F b o = B.F b o

theorem cell_at {w : World} {b o : Nat} {cur : Array Value} {ty : TypeId} {fr : Nat × Nat} (h : w.heap[b]? = some (.cells cur ty fr)) : w.cell? ⟨b, o, none⟩ = cur[o]? := by
  simp [World.cell?, h]

theorem lt_of_some {w : World} {b : Nat} {x : Obj} (h : w.heap[b]? = some x) : b < w.heap.size := (Array.getElem?_eq_some_iff.1 h).1

section
variable {B : Gd} {F : Fz} {ν : Nu} {M : Hp} {w : World}

theorem Ok.size (h : Ok B F ν M w) : B.w.heap.size ≤ w.heap.size := h.below.size
theorem Ok.lt (h : Ok B F ν M w) {b o : Nat} {v : Value} (hf : F b o = some v) : b < w.heap.size := World.block_lt_of_cell? w _ (h.fz _ _ _ hf)

theorem Ok.at (h : Ok B F ν M w) {id : Nat} {o : Ob} {k : Blk} (hm : M id = some o) (hk : ν id = some k) : ObAt F ν w o k ∧ (k.vt = false → ∀ x, F k.b x = none) := by
  obtain ⟨k', hk', h1, h2⟩ := h.ob _ _ hm
  rw [hk] at hk'
  cases hk'
  exact ⟨h1, h2⟩

theorem Ok.obLt (h : Ok B F ν M w) {id : Nat} {o : Ob} {k : Blk} (hm : M id = some o) (hk : ν id = some k) (hv : k.vt = false) : k.b < w.heap.size := by
  obtain ⟨cur, ty, fr, h1, _⟩ := (h.at hm hk).1.realV hv
  exact lt_of_some h1

/-- The world goes on; of what was there one object's block alone turns. -/
theorem Ok.world (h : Ok B F ν M w) {w' : World} (h1 : w'.os = w.os) (h2 : w'.tape = w.tape) (h3 : w'.output = w.output) (h4 : w.heap.size ≤ w'.heap.size)
    {id : Nat} {o o' : Ob} {k : Blk} (hm : M id = some o) (hk : ν id = some k) (hv : k.vt = false) (h5 : ∀ b, b < w.heap.size → b ≠ k.b → w'.heap[b]? = w.heap[b]?) (h6 : ObAt F ν w' o' k) : Ok B F ν (setM M id (some o')) w' := by
  obtain ⟨hat, hFk⟩ := h.at hm hk
  have hFk := hFk hv
  refine ⟨fun b o v hf => ?_, fun id1 o1 hm1 => ?_, fun id1 id2 o1 o2 k1 k2 a b hne c d v1 v2 => ?_, ⟨h1.trans h.below.os, h2.trans h.below.tape, h3.trans h.below.output, Nat.le_trans h.below.size h4, fun b hb hD => ?_⟩, fun id1 o1 k1 a b v1 => ?_, ⟨h.tab.1, fun b o hb => by
    have hw := h.tab.2 b o hb
    obtain ⟨x, v, hv⟩ := Tab.hd b o hb
    rw [h5 b (lt_of_some hw) (fun e => by have := h.tab.1 _ _ _ hv; rw [e, hFk] at this; cases this)]
    exact hw⟩, h.ice⟩
  · have hb : b ≠ k.b := fun e => by rw [e, hFk] at hf; cases hf
    rw [← h.fz _ _ _ hf]
    exact World.cell?_of_block (h5 b (h.lt hf) hb)
  · by_cases e : id1 = id
    · subst e
      rw [setM_same] at hm1
      cases hm1
      exact ⟨k, hk, h6, fun _ => hFk⟩
    · rw [setM_ne e] at hm1
      obtain ⟨k1, hk1, hat1, hF1⟩ := h.ob _ _ hm1
      exact ⟨k1, hk1, hat1.mono (Fz.le_refl _) (Nu.le_refl _) (fun v1 => h5 _ (h.obLt hm1 hk1 v1) (h.inj _ _ _ _ _ _ hm1 hm e hk1 hk v1 hv)), hF1⟩
  · by_cases e1 : id1 = id
    · have e2 : id2 ≠ id := fun e => hne (e1.trans e.symm)
      subst e1
      rw [setM_ne e2] at b
      exact h.inj _ _ _ _ _ _ hm b hne c d v1 v2
    · rw [setM_ne e1] at a
      by_cases e2 : id2 = id
      · subst e2
        exact h.inj _ _ _ _ _ _ a hm hne c d v1 v2
      · rw [setM_ne e2] at b
        exact h.inj _ _ _ _ _ _ a b hne c d v1 v2
  · rw [h5 b (Nat.lt_of_lt_of_le hb h.below.size) (fun e => by
      rcases h.live _ _ _ hm hk hv with hl | hl
      · exact hD (e ▸ hl)
      · omega)]
    exact h.below.block b hb hD
  · by_cases e : id1 = id
    · subst e
      exact h.live _ _ _ hm b v1
    · rw [setM_ne e] at a
      exact h.live _ _ _ a b v1

/-- The world goes on; nothing that was there turns. -/
theorem Ok.on (h : Ok B F ν M w) {w' : World} (h1 : w'.os = w.os) (h2 : w'.tape = w.tape) (h3 : w'.output = w.output) (h4 : w.heap.size ≤ w'.heap.size)
    (h5 : ∀ b, b < w.heap.size → w'.heap[b]? = w.heap[b]?) : Ok B F ν M w' := by
  refine ⟨fun b o v hf => ?_, fun id1 o1 hm1 => ?_, h.inj, ⟨h1.trans h.below.os, h2.trans h.below.tape, h3.trans h.below.output, Nat.le_trans h.below.size h4, fun b hb hD => ?_⟩, h.live, ⟨h.tab.1, fun b o hb => by
    have hw := h.tab.2 b o hb
    rw [h5 b (lt_of_some hw)]
    exact hw⟩, h.ice⟩
  · rw [← h.fz _ _ _ hf]
    exact World.cell?_of_block (h5 b (h.lt hf))
  · obtain ⟨k1, hk1, hat1, hF1⟩ := h.ob _ _ hm1
    exact ⟨k1, hk1, hat1.mono (Fz.le_refl _) (Nu.le_refl _) (fun v1 => h5 _ (h.obLt hm1 hk1 v1)), hF1⟩
  · rw [h5 b (Nat.lt_of_lt_of_le hb h.below.size)]
    exact h.below.block b hb hD

/-- A block that is nobody's becomes an object. -/
theorem Ok.new (h : Ok B F ν M w) {id : Nat} {o : Ob} {k : Blk} (hid : ν id = none) (hF : k.vt = false → ∀ x, F k.b x = none) (hob : k.vt = false → ∀ id' o' k', M id' = some o' → ν id' = some k' → k'.vt = false → k'.b ≠ k.b)
    (hl : k.vt = false → B.D k.b ∨ B.w.heap.size ≤ k.b) (hat : ObAt F ν w o k) : Ok B F (setN ν id k) (setM M id (some o)) w ∧ Nu.le ν (setN ν id k) := by
  have hle : Nu.le ν (setN ν id k) := fun x y hx => by
    unfold setN
    split
    · rename_i e; rw [e, hid] at hx; cases hx
    · exact hx
  have hM : M id = none := by
    cases hm : M id with
    | none => rfl
    | some o => obtain ⟨k', hk', _⟩ := h.ob _ _ hm; rw [hid] at hk'; cases hk'
  have hne : ∀ {x y}, x ≠ id → setN ν id k x = some y → ν x = some y := fun hx hy => by simpa [setN, hx] using hy
  refine ⟨⟨h.fz, fun id1 o1 hm1 => ?_, fun id1 id2 o1 o2 k1 k2 a b hn c d v1 v2 => ?_, h.below, fun id1 o1 k1 a b v1 => ?_, h.tab, h.ice⟩, hle⟩
  · by_cases e : id1 = id
    · subst e
      rw [setM_same] at hm1
      cases hm1
      exact ⟨k, by simp [setN], hat.mono (Fz.le_refl _) hle (fun _ => rfl), hF⟩
    · rw [setM_ne e] at hm1
      obtain ⟨k1, hk1, hat1, hF1⟩ := h.ob _ _ hm1
      exact ⟨k1, hle _ _ hk1, hat1.mono (Fz.le_refl _) hle (fun _ => rfl), hF1⟩
  · by_cases e1 : id1 = id
    · have e2 : id2 ≠ id := fun e => hn (e1.trans e.symm)
      subst e1
      rw [setM_ne e2] at b
      have hd := hne e2 d
      have : k1 = k := by simpa [setN] using c.symm
      subst this
      exact (hob v1 _ _ _ b hd v2).symm
    · rw [setM_ne e1] at a
      have hc := hne e1 c
      by_cases e2 : id2 = id
      · subst e2
        have : k2 = k := by simpa [setN] using d.symm
        subst this
        exact hob v2 _ _ _ a hc v1
      · rw [setM_ne e2] at b
        exact h.inj _ _ _ _ _ _ a b hn hc (hne e2 d) v1 v2
  · by_cases e : id1 = id
    · subst e
      have : k1 = k := by simpa [setN] using b.symm
      subst this
      exact hl v1
    · rw [setM_ne e] at a
      exact h.live _ _ _ a (hne e b) v1

theorem addF_le {b : Nat} {f : Nat → Option Value} (hF : ∀ x, F b x = none) : Fz.le F (addF F b f) := fun x o v hx => by
  unfold addF
  split
  · rename_i e; rw [e, hF] at hx; cases hx
  · exact hx

/-- Cells of a block that is nobody's: nobody writes them from now on. -/
theorem Ok.imm (h : Ok B F ν M w) {b : Nat} {f : Nat → Option Value} (hF : ∀ x, F b x = none) (hob : ∀ id' o' k', M id' = some o' → ν id' = some k' → k'.vt = false → k'.b ≠ b)
    (hl : B.D b ∨ B.w.heap.size ≤ b) (hf : ∀ o v, f o = some v → w.cell? ⟨b, o, none⟩ = some v) : Ok B (addF F b f) ν M w := by
  have hle := addF_le (f := f) hF
  refine ⟨fun x o v hx => ?_, fun id1 o1 hm1 => ?_, h.inj, h.below, h.live, ⟨Fz.le_trans h.tab.1 hle, h.tab.2⟩, fun x o hx hD => ?_⟩
  · unfold addF at hx
    split at hx
    · rename_i e; subst e; exact hf _ _ hx
    · exact h.fz _ _ _ hx
  · obtain ⟨k1, hk1, hat1, hF1⟩ := h.ob _ _ hm1
    refine ⟨k1, hk1, hat1.mono hle (Nu.le_refl _) (fun _ => rfl), fun v1 x => ?_⟩
    rw [addF, if_neg (hob _ _ _ hm1 hk1 v1)]
    exact hF1 v1 x
  · rw [addF, if_neg (fun e => by
      subst e
      rcases hl with hl | hl
      · exact hD hl
      · omega)]
    exact h.ice x o hx hD

/-- An object is forgotten. -/
theorem Ok.drop (h : Ok B F ν M w) (id : Nat) : Ok B F ν (setM M id none) w := by
  have hs : ∀ {x y}, setM M id none x = some y → M x = some y := fun {x y} hx => by
    rw [setM_at] at hx
    split at hx
    · cases hx
    · exact hx
  exact ⟨h.fz, fun id1 o1 hm1 => h.ob _ _ (hs hm1), fun id1 id2 o1 o2 k1 k2 a b => h.inj _ _ _ _ _ _ (hs a) (hs b), h.below, fun id1 o1 k1 a => h.live _ _ _ (hs a), h.tab, h.ice⟩

theorem setM_none_other {id x : Nat} (hx : x ≠ id) : setM M id none x = M x := setM_ne hx

end
end Go.Ka
namespace Go.Ka
open Go.RowKit
variable [Tab]

def ev (σ : Nat → V) : Operand → V
  | .tmp t => σ t
  | .const v => if v.oneCell' then .val v else .any
  | .global _ => .any
  | .func f => .fn f []

def Maps (a : Act) (F : Fz) (ν : Nu) (σ : Nat → V) : Prop := ∀ t, Rel F ν (a.tmps.getD t undef) (σ t)

theorem ev_rel {a : Act} {F : Fz} {ν : Nu} {σ : Nat → V} (h : Maps a F ν σ) (x : Operand) : Rel F ν (a.eval x) (ev σ x) := by
  cases x with
  | tmp t => exact h t
  | const v =>
    simp only [ev, Act.eval]
    split
    · rename_i hv; exact .val v hv
    · exact .any v
  | global g => exact .any _
  | func f => exact .fn f [] [] rfl (fun j v u hj => by simp at hj)

def Done (B : Gd) (F : Fz) (ν : Nu) (id : Nat) (o : Oper) (a : Act) (K : V → Hp → Prop) (a' : Act) (w' : World) : Prop :=
  ∃ v u M' F' ν', a' = a.put o.dst v ∧ K u M' ∧ Ok B F' ν' M' w' ∧ Fz.le F F' ∧ Nu.le ν ν' ∧ (∀ x, x ≠ id → ν' x = ν x) ∧ Rel F' ν' v u

def OpW (P : Program) (B : Gd) (o : Oper) (σ : Nat → V) (M : Hp) (id : Nat) (K : V → Hp → Prop) : Prop :=
  ∀ a w F ν, Ok B F ν M w → ν id = none → (∃ N, ∀ x, N ≤ x → ν x = none) → Maps a F ν σ → o.wp P a w (Done B F ν id o a K) (fun _ _ _ => False)

section
variable {P : Program} {B : Gd} {o : Oper} {σ : Nat → V} {M : Hp} {id : Nat} {K : V → Hp → Prop}

theorem opw_of {u : V} (hK : K u M) (h : ∀ a w F ν, Ok B F ν M w → Maps a F ν σ → ∃ v, (execOp a.eval o).run P w = .ok (.value v) w ∧ Rel F ν v u) : OpW P B o σ M id K := by
  intro a w F ν hok _ _ hm
  obtain ⟨v, hv, hr⟩ := h a w F ν hok hm
  unfold Oper.wp
  rw [hv]
  exact ⟨v, u, M, F, ν, rfl, hK, hok, Fz.le_refl _, Nu.le_refl _, fun _ _ => rfl, hr⟩

theorem opw_on {u : V} {M' : Hp} (hK : K u M') (h : ∀ a w F ν, Ok B F ν M w → ν id = none → Maps a F ν σ →
    ∃ r v w' F' ν', (execOp a.eval o).run P w = .ok r w' ∧ (r = .value v ∨ (r = .skip ∧ v = undef)) ∧ Ok B F' ν' M' w' ∧ Fz.le F F' ∧ Nu.le ν ν' ∧ (∀ x, x ≠ id → ν' x = ν x) ∧ Rel F' ν' v u) : OpW P B o σ M id K := by
  intro a w F ν hok hid _ hm
  obtain ⟨r, v, w', F', ν', hv, hr, h1, h2, h3, h4, h5⟩ := h a w F ν hok hid hm
  unfold Oper.wp
  rw [hv]
  rcases hr with rfl | ⟨rfl, rfl⟩
  · exact ⟨v, u, M', F', ν', rfl, hK, h1, h2, h3, h4, h5⟩
  · exact ⟨undef, u, M', F', ν', rfl, hK, h1, h2, h3, h4, h5⟩
end

/-! ### What a type's number says -/
def szOf (P : Program) (t : Nat) : Option Nat := (P.info? t).map (·.size)
def isAg (P : Program) (t : Nat) : Option Bool := match P.underlying t with
  | some (.struct _) | some (.array _ _) => some true
  | some _ => some false
  | none => none
def fOf (P : Program) (t f : Nat) : Option (Nat × Nat) := match P.underlying t with
  | some (.struct fs) => (fs[f]?).map fun x => (x.offset, x.type)
  | _ => none
def elOf (P : Program) (t : Nat) : Option Nat := match P.underlying t with
  | some (.slice e) => some e
  | _ => none

theorem isAg_run {P : Program} {t : Nat} {b : Bool} (h : isAg P t = some b) (w : World) : (Go.isAgg t).run P w = .ok b w := by
  unfold isAg at h
  cases hu : P.underlying t with
  | none => simp [hu] at h
  | some d =>
    simp only [hu] at h
    cases d <;> simp_all [isAgg, run_underlying hu]

theorem szOf_run {P : Program} {t n : Nat} (h : szOf P t = some n) (w : World) : (Go.sizeOf t).run P w = .ok n w := by
  unfold szOf at h
  cases hi : P.info? t with
  | none => simp [hi] at h
  | some i =>
    simp [hi] at h
    simp [sizeOf, typeInfo, hi, h]

theorem elOf_und {P : Program} {t e : Nat} (h : elOf P t = some e) : P.underlying t = some (.slice e) := by
  unfold elOf at h
  cases hu : P.underlying t with
  | none => simp [hu] at h
  | some d => cases d <;> simp_all

/-! ### Cells behind a pointer -/
def pcells (M : Hp) : V → Option (List V)
  | .iptr cs => some cs
  | .ptr id i off => (M id).bind fun o => (o.els[i]?).map (·.drop off)
  | _ => none

theorem pcells_at {B : Gd} {F : Fz} {ν : Nu} {M : Hp} {w : World} (hok : Ok B F ν M w) {v : Value} {u : V} (hr : Rel F ν v u) {cs : List V} (h : pcells M u = some cs) :
    ∃ b o, ∃ vals : Nat → Value, v = .pointer (some ⟨b, o, none⟩) ∧ ∀ (j : Nat) (x : V), cs[j]? = some x → x.cell = true ∧ w.cell? ⟨b, o + j, none⟩ = some (vals j) ∧ Rel F ν (vals j) x := by
  cases hr with
  | iptr b o cs' vals hce hf hr' =>
    simp only [pcells, Option.some.injEq] at h
    subst h
    exact ⟨b, o, vals, rfl, fun j x hj => ⟨hce j x hj, hok.fz _ _ _ (hf j x hj), hr' j x hj⟩⟩
  | ptr id i off k hk =>
    simp only [pcells] at h
    cases hm : M id with
    | none => simp [hm] at h
    | some ob =>
      simp only [hm, Option.bind_some] at h
      cases he : ob.els[i]? with
      | none => simp [he] at h
      | some el =>
        simp only [he, Option.map_some, Option.some.injEq] at h
        subst h
        obtain ⟨_, cur, ty, fr, h1, ⟨h2, gty⟩, h3, h4, h5, h6, h7⟩ := (hok.at hm hk).1.real he
        have hsome : ∀ j x, (el.drop off)[j]? = some x → x.cell = true ∧ ∃ y, w.cell? ⟨k.b, i * k.sz + off + j, none⟩ = some y ∧ Rel F ν y x := by
          intro j x hj
          rw [List.getElem?_drop] at hj
          obtain ⟨hc, y, hy, hry⟩ := h7 i el (off + j) x he hj
          exact ⟨hc, y, by rw [cell_at h1, h4, Nat.add_assoc]; exact hy, hry⟩
        refine ⟨k.b, i * k.sz + off, fun j => (w.cell? ⟨k.b, i * k.sz + off + j, none⟩).getD undef, rfl, fun j x hj => ?_⟩
        obtain ⟨hc, y, hy, hry⟩ := hsome j x hj
        simp only [hy, Option.getD_some]
        exact ⟨hc, trivial, hry⟩
  | _ => simp [pcells] at h

/-- What a load hands back. -/
def vload (ag : Bool) (n : Nat) (cs : List V) : Option V :=
  if ag then (if n ≤ cs.length then some (.agg (cs.take n)) else none) else cs.head?

theorem load_run {P : Program} {w : World} {F : Fz} {ν : Nu} {t n b o : Nat} {ag : Bool} {cs : List V} {vals : Nat → Value} {u : V} (ha : isAg P t = some ag) (hs : szOf P t = some n)
    (hc : ∀ (j : Nat) (x : V), cs[j]? = some x → x.cell = true ∧ w.cell? ⟨b, o + j, none⟩ = some (vals j) ∧ Rel F ν (vals j) x) (h : vload ag n cs = some u) :
    ∃ v, (loadVar t ⟨b, o, none⟩).run P w = .ok v w ∧ Rel F ν v u := by
  unfold vload at h
  cases ag with
  | true =>
    simp only [if_true] at h
    split at h
    · rename_i hn
      simp only [Option.some.injEq] at h
      subst h
      have hl := run_loadCells (P := P) (w := w) ⟨b, o, none⟩ n (fun j => vals j) (fun j hj => by
        rw [Addr.add_lit]
        exact (hc j cs[j] (List.getElem?_eq_getElem (by omega))).2.1)
      refine ⟨.agg ((List.range n).map vals).toArray, ?_, ?_⟩
      · simp [loadVar, isAg_run ha, szOf_run hs, hl]
      · refine .agg _ _ (by simp; omega) (fun j u hj => ?_) (fun j v u hj hu => ?_)
        · rw [List.getElem?_take] at hj
          split at hj
          · exact (hc j u hj).1
          · cases hj
        · rw [List.getElem?_take] at hu
          split at hu
          · rename_i hjn
            rw [List.getElem?_map, List.getElem?_range hjn] at hj
            simp at hj
            subst hj
            exact (hc j u hu).2.2
          · cases hu
    · cases h
  | false =>
    simp only [Bool.false_eq_true, if_false] at h
    cases cs with
    | nil => simp at h
    | cons x r =>
      simp at h
      subst h
      obtain ⟨_, h1, h2⟩ := hc 0 x rfl
      refine ⟨vals 0, ?_, h2⟩
      simp [loadVar, isAg_run ha, show w.cell? ⟨b, o, none⟩ = some (vals 0) from h1]

section
variable {P : Program} {B : Gd} {σ : Nat → V} {M : Hp} {id : Nat} {K : V → Hp → Prop} {dst : Option Nat} {ty : Nat} {pos : String} {after : Array Edge} {guard : Option (Nat × Bool)}

theorem w_move {x : Operand} (hK : K (ev σ x) M) : OpW P B ⟨dst, .move x, ty, pos, after, guard⟩ σ M id K :=
  opw_of hK fun a w F ν _ hm => ⟨a.eval x, by simp [execOp], ev_rel hm x⟩

theorem w_assign {x : Operand} (hK : K (ev σ x) M) : OpW P B ⟨dst, .assign x, ty, pos, after, guard⟩ σ M id K :=
  opw_of hK fun a w F ν _ hm => ⟨a.eval x, by simp [execOp], ev_rel hm x⟩

theorem rel_val {F : Fz} {ν : Nu} {v w : Value} (h : Rel F ν v (.val w)) : v = w := by cases h; rfl

theorem w_pick {c x y : Operand} {b : Bool} (hc : ev σ c = .val (.bool b)) (hK : K (if b then ev σ x else ev σ y) M) : OpW P B ⟨dst, .pick c x y, ty, pos, after, guard⟩ σ M id K := by
  refine opw_of hK fun a w F ν _ hm => ?_
  have h := ev_rel hm c
  rw [hc] at h
  have e := rel_val h
  refine ⟨if b then a.eval x else a.eval y, by cases b <;> simp [execOp, e, asBool], ?_⟩
  cases b
  · exact ev_rel hm y
  · exact ev_rel hm x

theorem w_load {t n : Nat} {x : Operand} {ag : Bool} {cs : List V} {u : V} (ha : isAg P t = some ag) (hs : szOf P t = some n) (hc : pcells M (ev σ x) = some cs) (hu : vload ag n cs = some u) (hK : K u M) :
    OpW P B ⟨dst, .load t x, ty, pos, after, guard⟩ σ M id K := by
  refine opw_of hK fun a w F ν hok hm => ?_
  obtain ⟨b, o, vals, hp, hcs⟩ := pcells_at hok (ev_rel hm x) hc
  obtain ⟨v, hv, hr⟩ := load_run (P := P) ha hs hcs hu
  exact ⟨v, by simp [execOp, hp, Instr.loadAt, Instr.sureAddr, hv], hr⟩

theorem w_extract {x : Operand} {k : Nat} {vs : List V} {u : V} (hx : ev σ x = .tup vs) (hu : vs[k]? = some u) (hK : K u M) : OpW P B ⟨dst, .extract x k, ty, pos, after, guard⟩ σ M id K := by
  refine opw_of hK fun a w F ν _ hm => ?_
  have h := ev_rel hm x
  rw [hx] at h
  generalize hv : a.eval x = v at h
  cases h with
  | tup ls _ hl hr =>
    obtain ⟨y, hy⟩ := get_of_length hl hu
    exact ⟨y, by simp [execOp, Instr.extract, hv, hy], hr _ _ _ hy hu⟩

end
end Go.Ka
namespace Go.Ka
open Go.RowKit
variable [Tab]

def pbits (op : BinOp) (k : IntKind) (x y : Int) : Int :=
  k.wrap ((match op with
    | .and => BitVec.ofInt k.bits x &&& BitVec.ofInt k.bits y
    | .or => BitVec.ofInt k.bits x ||| BitVec.ofInt k.bits y
    | .xor => BitVec.ofInt k.bits x ^^^ BitVec.ofInt k.bits y
    | _ => BitVec.ofInt k.bits x &&& ~~~(BitVec.ofInt k.bits y)).toNat : Int)

def pint (op : BinOp) (k : IntKind) (a b : Int) : Option Value :=
  match op with
  | .add => some (.int k (k.wrap (a + b)))
  | .sub => some (.int k (k.wrap (a - b)))
  | .mul => some (.int k (k.wrap (a * b)))
  | .quo => if b = 0 then none else some (.int k (k.wrap (a.tdiv b)))
  | .rem => if b = 0 then none else some (.int k (a.tmod b))
  | .and => some (.int k (pbits .and k a b))
  | .or => some (.int k (pbits .or k a b))
  | .xor => some (.int k (pbits .xor k a b))
  | .andNot => some (.int k (pbits .andNot k a b))
  | .eql => some (.bool (a == b))
  | .neq => some (.bool (a != b))
  | .lss => some (.bool (decide (a < b)))
  | .leq => some (.bool (decide (a ≤ b)))
  | .gtr => some (.bool (decide (a > b)))
  | .geq => some (.bool (decide (a ≥ b)))
  | _ => none

/-- A text of bytes, as a value. -/
def str (l : List UInt8) : Value := .string ⟨l.toArray⟩

def pstr (op : BinOp) (a b : List UInt8) : Option Value :=
  match op with
  | .add => if a.length + b.length ≤ 9223372036854775807 then some (str (a ++ b)) else none
  | .eql => some (.bool (a == b))
  | .neq => some (.bool (!(a == b)))
  | .lss => some (.bool (Op.bytesLess a b))
  | .leq => some (.bool (Op.bytesLess a b || a == b))
  | .gtr => some (.bool (!(Op.bytesLess a b || a == b)))
  | .geq => some (.bool (!Op.bytesLess a b))
  | _ => none

def pshift (op : BinOp) (k : IntKind) (a b : Int) : Option Value :=
  if 0 ≤ b then (match op with
    | .shl => some (.int k (k.wrap (a * 2 ^ min b.toNat k.bits)))
    | .shr => some (.int k (a.fdiv (2 ^ min b.toNat k.bits)))
    | _ => none) else none

def pbin (op : BinOp) : Value → Value → Option Value
  | .int k a, .int k' b => if op = .shl ∨ op = .shr then pshift op k a b else if k = k' then pint op k a b else none
  | .string a, .string b => pstr op a.data.toList b.data.toList
  | _, _ => none

theorem pint_run {P : Program} {w : World} {op : BinOp} {t : Nat} {k : IntKind} {a b : Int} {v : Value} (hs : ¬ (op = .shl ∨ op = .shr)) (h : pint op k a b = some v) :
    (binOp op t (.int k a) (.int k b)).run P w = .ok v w := by
  cases op <;> simp [pint] at h hs <;> first
    | (subst h; simp [binOp, Op.intArith, Op.intBits, Op.intCmp, pbits]; done)
    | (obtain ⟨h0, rfl⟩ := h; simp [binOp, Op.intDiv, h0])

theorem pshift_run {P : Program} {w : World} {op : BinOp} {t : Nat} {k k' : IntKind} {a b : Int} {v : Value} (h : pshift op k a b = some v) :
    (binOp op t (.int k a) (.int k' b)).run P w = .ok v w := by
  unfold pshift at h
  split at h
  · rename_i h0
    have h1 : ¬ b < 0 := by omega
    cases op <;> simp at h <;> (subst h; simp [binOp, Op.shift, h1])
  · cases h

theorem toList_eq (s : ByteArray) : s.toList = s.data.toList := Lib.toList_data s

theorem pstr_run {P : Program} {w : World} {op : BinOp} {t : Nat} {a b : ByteArray} {v : Value} (h : pstr op a.data.toList b.data.toList = some v) :
    (binOp op t (.string a) (.string b)).run P w = .ok v w := by
  cases op <;> simp [pstr] at h
  case add =>
    obtain ⟨h0, rfl⟩ := h
    have h1 : ¬ (((a.size + b.size : Nat) : Int) > IntKind.i64.max) := by
      rw [IntKind.max_i64]
      have ha : a.data.size = a.size := rfl
      have hb : b.data.size = b.size := rfl
      omega
    have h2 : a ++ b = (⟨(a.data.toList ++ b.data.toList).toArray⟩ : ByteArray) := by
      apply ByteArray.ext
      simp
    simp only [binOp, Op.stringOp]
    rw [if_neg h1, h2]
    rfl
  all_goals
    subst h
    simp [binOp, Op.stringOp, toList_eq]

theorem pbin_run {P : Program} {w : World} {op : BinOp} {t : Nat} {a b v : Value} (h : pbin op a b = some v) : (binOp op t a b).run P w = .ok v w ∧ v.oneCell' = true := by
  unfold pbin at h
  split at h
  · split at h
    · refine ⟨pshift_run h, ?_⟩
      unfold pshift at h
      split at h
      · cases op <;> simp at h <;> (subst h; rfl)
      · cases h
    · split at h
      · rename_i hs e
        subst e
        refine ⟨pint_run hs h, ?_⟩
        cases op <;> simp [pint] at h <;> first
          | (subst h; rfl)
          | (obtain ⟨_, rfl⟩ := h; rfl)
      · cases h
  · refine ⟨pstr_run h, ?_⟩
    cases op <;> simp [pstr] at h <;> first
      | (subst h; rfl)
      | (obtain ⟨_, rfl⟩ := h; rfl)
  · cases h

theorem pbin_guard {P : Program} {w : World} {op : BinOp} {t : Nat} {x y : Operand} {a b v : Value} (h : pbin op a b = some v) : (eqGuard op t x y a b).run P w = .ok () w := by
  unfold pbin at h
  split at h
  · rw [eqGuard_at_int]; rfl
  · rw [eqGuard_at_string]; rfl
  · cases h

def punop (op : UnOp) : Value → Option Value
  | .bool b => if op = .not then some (.bool (!b)) else none
  | .int k n => match op with
    | .neg => some (.int k (k.wrap (0 - n)))
    | .xor => some (.int k (pbits .xor k (if k.signed then -1 else k.max) n))
    | _ => none
  | _ => none

/-- How long a slice is. -/
def vlen : V → Option Nat
  | .arr els => some els.length
  | .own _ _ n => some n
  | .owt _ n _ => some n
  | .val (.slice _ n _) => some n
  | _ => none

theorem vlen_slice {F : Fz} {ν : Nu} {v : Value} {u : V} (h : Rel F ν v u) {m : Nat} (hm : vlen u = some m) : ∃ A c, v = .slice A m c := by
  cases h with
  | val v hv =>
    cases v <;> simp [vlen] at hm
    subst hm
    exact ⟨_, _, rfl⟩
  | arr A n c sz els vals hn hc hm hsz hce hA hr =>
    simp [vlen] at hm
    subst hm
    subst hn
    exact ⟨_, _, rfl⟩
  | own id a n c A k hk hc hm hA hB =>
    simp [vlen] at hm
    subst hm
    exact ⟨_, _, rfl⟩
  | owt id n c T A k hk hc hm hA hB hT =>
    simp [vlen] at hm
    subst hm
    exact ⟨_, _, rfl⟩
  | _ => simp [vlen] at hm

def isStr (P : Program) (t : Nat) : Bool := match P.underlying t with | some .string => true | _ => false
theorem isStr_und {P : Program} {t : Nat} (h : isStr P t = true) : P.underlying t = some .string := by
  unfold isStr at h
  split at h
  · assumption
  · cases h

section
variable {P : Program} {B : Gd} {σ : Nat → V} {M : Hp} {id : Nat} {K : V → Hp → Prop} {dst : Option Nat} {ty : Nat} {pos : String} {after : Array Edge} {guard : Option (Nat × Bool)}

theorem w_binOp {op : BinOp} {t t' : Nat} {x y : Operand} {a b v : Value} (hx : ev σ x = .val a) (hy : ev σ y = .val b) (h : pbin op a b = some v) (hK : K (.val v) M) :
    OpW P B ⟨dst, .binOp op t x y t', ty, pos, after, guard⟩ σ M id K := by
  refine opw_of hK fun ac w F ν _ hm => ?_
  have h1 := ev_rel hm x
  have h2 := ev_rel hm y
  rw [hx] at h1
  rw [hy] at h2
  have e1 := rel_val h1
  have e2 := rel_val h2
  obtain ⟨hr, hc⟩ := pbin_run (P := P) (w := w) (t := t) h
  exact ⟨v, by simp [execOp, e1, e2, pbin_guard (P := P) (w := w) (t := t) (x := x) (y := y) h, hr], .val v hc⟩

theorem w_eqbool {t t' : Nat} {x y : Operand} {a b : Bool} (ht : P.underlying t = some .bool) (hx : ev σ x = .val (.bool a)) (hy : ev σ y = .val (.bool b)) (hK : K (.val (.bool (a == b))) M) :
    OpW P B ⟨dst, .binOp .eql t x y t', ty, pos, after, guard⟩ σ M id K := by
  refine opw_of hK fun ac w F ν _ hm => ?_
  have h1 := ev_rel hm x
  have h2 := ev_rel hm y
  rw [hx] at h1
  rw [hy] at h2
  have e1 := rel_val h1
  have e2 := rel_val h2
  exact ⟨_, by simp [execOp, e1, e2, eqGuard_at_bool, run_eql_bool w t a b ht], .val _ rfl⟩

theorem w_unOp {op : UnOp} {t : Nat} {x : Operand} {a v : Value} (hx : ev σ x = .val a) (h : punop op a = some v) (hK : K (.val v) M) :
    OpW P B ⟨dst, .unOp op t x, ty, pos, after, guard⟩ σ M id K := by
  refine opw_of hK fun ac w F ν _ hm => ?_
  have h1 := ev_rel hm x
  rw [hx] at h1
  have e1 := rel_val h1
  refine ⟨v, ?_, ?_⟩
  · unfold punop at h
    split at h
    · split at h
      · rename_i e
        subst e
        cases h
        simp [execOp, e1, Op.unary]
      · cases h
    · cases op <;> simp at h <;> (subst h; simp [execOp, e1, Op.unary, Op.intArith, Op.intBits, pbits])
    · cases h
  · refine .val v ?_
    unfold punop at h
    split at h
    · split at h
      · cases h; rfl
      · cases h
    · cases op <;> simp at h <;> (subst h; rfl)
    · cases h

theorem w_fieldAddr {s f d ft n : Nat} {x : Operand} {u : V} (hf : fOf P s f = some (d, ft)) (hs : szOf P ft = some n) (hn : n ≠ 0)
    (h : (∃ cs, ev σ x = .iptr cs ∧ u = .iptr (cs.drop d)) ∨ (∃ i j o, ev σ x = .ptr i j o ∧ u = .ptr i j (o + d))) (hK : K u M) :
    OpW P B ⟨dst, .fieldAddr s x f, ty, pos, after, guard⟩ σ M id K := by
  refine opw_of hK fun ac w F ν _ hm => ?_
  have hu : ∃ fs fd, P.underlying s = some (.struct fs) ∧ fs[f]? = some fd ∧ fd.offset = d ∧ fd.type = ft := by
    unfold fOf at hf
    cases hu : P.underlying s with
    | none => simp [hu] at hf
    | some t =>
      cases t <;> simp [hu] at hf
      rename_i fs
      obtain ⟨x, hx, h1, h2⟩ := hf
      exact ⟨fs, x, rfl, hx, h1, h2⟩
  obtain ⟨fs, fd, hu, hfd, rfl, rfl⟩ := hu
  have hplace : ∀ b o, (fieldPlace ⟨b, o, none⟩ fd).run P w = .ok ⟨b, o + fd.offset, none⟩ w := fun b o => by
    simp [fieldPlace, szOf_run hs, hn, Addr.add_lit]
  have h1 := ev_rel hm x
  rcases h with ⟨cs, hx, rfl⟩ | ⟨i, j, o, hx, rfl⟩
  · rw [hx] at h1
    generalize hv : ac.eval x = v at h1
    cases h1 with
    | iptr b o cs' vals hce hf' hr' =>
      refine ⟨.pointer (some ⟨b, o + fd.offset, none⟩), by simp [execOp, hv, Instr.fieldAt, run_underlying hu, hfd, Instr.sureAddr, hplace], ?_⟩
      refine .iptr b _ _ (fun j => vals (fd.offset + j)) (fun j u hj => ?_) (fun j u hj => ?_) (fun j u hj => ?_) <;> rw [List.getElem?_drop] at hj
      · exact hce _ _ hj
      · rw [Nat.add_assoc]; exact hf' _ _ hj
      · exact hr' _ _ hj
  · rw [hx] at h1
    generalize hv : ac.eval x = v at h1
    cases h1 with
    | ptr _ _ _ k hk =>
      refine ⟨.pointer (some ⟨k.b, j * k.sz + o + fd.offset, none⟩), by simp [execOp, hv, Instr.fieldAt, run_underlying hu, hfd, Instr.sureAddr, hplace], ?_⟩
      rw [Nat.add_assoc]
      exact .ptr i j (o + fd.offset) k hk

theorem w_field {s f d ft n : Nat} {x : Operand} {cs : List V} {ag : Bool} {u : V} (hf : fOf P s f = some (d, ft)) (hs : szOf P ft = some n) (hg : isAg P ft = some ag) (hx : ev σ x = .agg cs) (hu : vload ag n (cs.drop d) = some u) (hK : K u M) :
    OpW P B ⟨dst, .field s x f, ty, pos, after, guard⟩ σ M id K := by
  refine opw_of hK fun ac w F ν _ hm => ?_
  have hun : ∃ fs fd, P.underlying s = some (.struct fs) ∧ fs[f]? = some fd ∧ fd.offset = d ∧ fd.type = ft := by
    unfold fOf at hf
    cases hu : P.underlying s with
    | none => simp [hu] at hf
    | some t =>
      cases t <;> simp [hu] at hf
      rename_i fs
      obtain ⟨x, hx, h1, h2⟩ := hf
      exact ⟨fs, x, rfl, hx, h1, h2⟩
  obtain ⟨fs, fd, hun, hfd, rfl, rfl⟩ := hun
  have h1 := ev_rel hm x
  rw [hx] at h1
  generalize hv : ac.eval x = v at h1
  cases h1 with
  | agg vs _ hl hce hr =>
    unfold vload at hu
    cases ag with
    | true =>
      simp only [if_true] at hu
      split at hu
      · rename_i hn
        simp only [Option.some.injEq] at hu
        subst hu
        refine ⟨.agg ((vs.drop fd.offset).take n).toArray, ?_, ?_⟩
        · simp [execOp, hv, Instr.field, run_underlying hun, hfd, asAgg, part, isAg_run hg, szOf_run hs]
        · refine .agg _ _ (by simp [hl]) (fun j u hj => ?_) (fun j v u hj hu => ?_)
          · rw [List.getElem?_take] at hj
            split at hj
            · rw [List.getElem?_drop] at hj
              exact hce _ _ hj
            · cases hj
          · rw [List.getElem?_take] at hu hj
            split at hu
            · rename_i hjn
              rw [if_pos hjn] at hj
              rw [List.getElem?_drop] at hu hj
              exact hr _ _ _ hj hu
            · cases hu
      · cases hu
    | false =>
      simp only [Bool.false_eq_true, if_false] at hu
      have hu' : cs[fd.offset]? = some u := by
        rw [List.head?_eq_getElem?, List.getElem?_drop] at hu
        simpa using hu
      obtain ⟨y, hy⟩ := get_of_length hl hu'
      exact ⟨y, by simp [execOp, hv, Instr.field, run_underlying hun, hfd, asAgg, part, isAg_run hg, hy], hr _ _ _ hy hu'⟩

theorem w_lenStr {x : Operand} {t : Nat} {s : ByteArray} (ht : P.underlying t = some .string) (hx : ev σ x = .val (.string s)) (hK : K (.val (.int .i64 s.data.toList.length)) M) :
    OpW P B ⟨dst, .call ⟨.builtin .len, #[x], #[t]⟩, ty, pos, after, guard⟩ σ M id K := by
  refine opw_of hK fun ac w F ν _ hm => ?_
  have h1 := ev_rel hm x
  rw [hx] at h1
  have e1 := rel_val h1
  exact ⟨.int .i64 s.data.toList.length, by simp [execOp, resolve, invoke, builtin, e1, Builtin.len_, run_underlying ht, goInt], .val _ rfl⟩

theorem w_len {x : Operand} {t e n : Nat} (ht : elOf P t = some e) (hx : vlen (ev σ x) = some n) (hK : K (.val (.int .i64 n)) M) :
    OpW P B ⟨dst, .call ⟨.builtin .len, #[x], #[t]⟩, ty, pos, after, guard⟩ σ M id K := by
  refine opw_of hK fun ac w F ν _ hm => ?_
  obtain ⟨A, c, e1⟩ := vlen_slice (ev_rel hm x) hx
  exact ⟨.int .i64 n, by simp [execOp, resolve, invoke, builtin, e1, Builtin.len_, run_underlying (elOf_und ht), goInt], .val _ rfl⟩
end
end Go.Ka
namespace Go.Ka
open Go.RowKit
variable [Tab]

/-- An element's place. -/
def vidx (M : Hp) (sz : Nat) (u : V) (n : Nat) : Option V :=
  match u with
  | .arr els => (els[n]?).bind fun el => if el.length = sz then some (.iptr el) else none
  | .own id a m => if n < m then (M id).bind fun o => if o.sz = sz then some (.ptr id (a + n) 0) else none else none
  | _ => none

/-- A part of a slice. -/
def vcut (M : Hp) (sz : Nat) (u : V) (l h : Nat) : Option V :=
  match u with
  | .arr els => if l ≤ h ∧ h ≤ els.length ∧ (∀ el ∈ els, el.length = sz) then some (.arr ((els.drop l).take (h - l))) else none
  | .own id a m => if l ≤ h ∧ h ≤ m then (M id).bind fun o => if o.sz = sz then some (.own id (a + l) (h - l)) else none else none
  | .val (.slice none 0 0) => if l = 0 ∧ h = 0 then some (.val (.slice none 0 0)) else none
  | _ => none

/-- A value's cells. -/
def vcells : V → Option (List V)
  | .agg cs => some cs
  | .tup _ => none
  | .any => none
  | u => some [u]

theorem vcells_rel {F : Fz} {ν : Nu} {v : Value} {u : V} (h : Rel F ν v u) {cs : List V} (hc : vcells u = some cs) :
    ∃ vs : List Value, v.cells = vs.toArray ∧ vs.length = cs.length ∧ (∀ (j : Nat) (x : V), cs[j]? = some x → x.cell = true) ∧ ∀ (j : Nat) (y : Value) (x : V), vs[j]? = some y → cs[j]? = some x → Rel F ν y x := by
  have one : u.cell = true → v.cells = #[v] → cs = [u] → ∃ vs : List Value, v.cells = vs.toArray ∧ vs.length = cs.length ∧ (∀ (j : Nat) (x : V), cs[j]? = some x → x.cell = true) ∧ ∀ (j : Nat) (y : Value) (x : V), vs[j]? = some y → cs[j]? = some x → Rel F ν y x := by
    intro hu e1 e2
    subst e2
    refine ⟨[v], e1, rfl, fun j x hj => ?_, fun j y x hj hx => ?_⟩
    · cases j <;> simp at hj
      subst hj; exact hu
    · cases j <;> simp at hj hx
      subst hj; subst hx; exact h
  cases h with
  | agg vs cs' hl hce hr =>
    simp [vcells] at hc
    subst hc
    exact ⟨vs, rfl, hl, hce, hr⟩
  | any v => simp [vcells] at hc
  | tup => simp [vcells] at hc
  | val v hv =>
    simp [vcells] at hc
    exact one rfl (by cases v <;> first | rfl | (simp [Value.oneCell'] at hv)) hc.symm
  | arr => simp [vcells] at hc; exact one rfl rfl hc.symm
  | iptr => simp [vcells] at hc; exact one rfl rfl hc.symm
  | fn => simp [vcells] at hc; exact one rfl rfl hc.symm
  | own => simp [vcells] at hc; exact one rfl rfl hc.symm
  | ptr => simp [vcells] at hc; exact one rfl rfl hc.symm
  | nz => simp [vcells] at hc; exact one rfl rfl hc.symm
  | sp => simp [vcells] at hc; exact one rfl rfl hc.symm
  | ps => simp [vcells] at hc; exact one rfl rfl hc.symm
  | ub => simp [vcells] at hc; exact one rfl rfl hc.symm
  | pp => simp [vcells] at hc; exact one rfl rfl hc.symm
  | tst => simp [vcells] at hc; exact one rfl rfl hc.symm
  | owt => simp [vcells] at hc; exact one rfl rfl hc.symm

theorem take_set_succ {α : Type} (l : List α) (n : Nat) (v : α) (h : n < l.length) : (l.set n v).take (n + 1) = l.take n ++ [v] := by
  rw [List.set_eq_take_append_cons_drop, if_pos h, List.take_append, List.take_of_length_le (by simp; omega), List.length_take, Nat.min_eq_left (by omega)]
  simp

/-- A store of cells into a block. -/
theorem run_cells_at {P : Program} {w : World} {b o : Nat} {cur : Array Value} {ty : TypeId} {fr : Nat × Nat} (hb : w.heap[b]? = some (.cells cur ty fr)) {vs : List Value} (hfit : o + vs.length ≤ cur.size)
    (hfr : ∀ x, x < cur.size → ¬ (fr.1 ≤ x ∧ x < fr.2)) (h1 : ∀ v ∈ vs, v.oneCell' = true) :
    ∃ w', (storeCells ⟨b, o, none⟩ vs).run P w = .ok () w' ∧ w'.heap[b]? = some (.cells (cur.toList.take o ++ vs ++ cur.toList.drop (o + vs.length)).toArray ty fr) ∧
      (∀ k, k ≠ b → w'.heap[k]? = w.heap[k]?) ∧ w'.heap.size = w.heap.size ∧ w'.os = w.os ∧ w'.tape = w.tape ∧ w'.output = w.output := by
  have key : ∀ (vs : List Value) (i : Nat) (w : World) (cur : Array Value), w.heap[b]? = some (.cells cur ty fr) → o + i + vs.length ≤ cur.size → (∀ x, x < cur.size → ¬ (fr.1 ≤ x ∧ x < fr.2)) → (∀ v ∈ vs, v.oneCell' = true) →
      ∃ w', (storeCells ⟨b, o, none⟩ vs i).run P w = .ok () w' ∧ w'.heap[b]? = some (.cells (cur.toList.take (o + i) ++ vs ++ cur.toList.drop (o + i + vs.length)).toArray ty fr) ∧
      (∀ k, k ≠ b → w'.heap[k]? = w.heap[k]?) ∧ w'.heap.size = w.heap.size ∧ w'.os = w.os ∧ w'.tape = w.tape ∧ w'.output = w.output := by
    intro vs
    induction vs with
    | nil =>
      intro i w cur hb _ _ _
      refine ⟨w, by simp [storeCells], ?_, fun _ _ => rfl, rfl, rfl, rfl, rfl⟩
      simp [hb]
    | cons v r ih =>
      intro i w cur hb hfit hfr h1
      simp only [List.length_cons] at hfit
      have hcell : w.cell? ⟨b, o + i, none⟩ = some cur[o + i] := by rw [cell_at hb]; exact Array.getElem?_eq_getElem (by omega)
      have hfz : w.frozen? ⟨b, o + i, none⟩ = false := by
        have := hfr (o + i) (by omega)
        obtain ⟨lo, hi⟩ := fr
        simp [World.frozen?, hb] at this ⊢
        exact this
      have hset : (w.setCell ⟨b, o + i, none⟩ v).heap[b]? = some (.cells (cur.setIfInBounds (o + i) v) ty fr) := by
        simp [World.setCell, Array.getElem?_modify, hb]
      obtain ⟨w', hr, hb', hk, hs, h2, h3, h4⟩ := ih (i + 1) (w.setCell ⟨b, o + i, none⟩ v) (cur.setIfInBounds (o + i) v) hset (by simp; omega) (by simpa using hfr) (fun x hx => h1 x (by simp [hx]))
      refine ⟨w', ?_, ?_, fun k hne => ?_, by rw [hs]; simp [World.setCell], h2, h3, h4⟩
      · simp only [storeCells, Addr.add_lit, Sem.run_bind, run_store P w _ v _ (h1 v (by simp)), hcell, hfz]
        simpa [Result.andThen] using hr
      · rw [hb']
        congr 3
        have e1 : o + (i + 1) = o + i + 1 := by omega
        rw [e1, Array.toList_setIfInBounds]
        have e2 := take_set_succ cur.toList (o + i) v (by simp; omega)
        rw [e2, List.drop_set_of_lt (by omega)]
        simp only [List.append_assoc, List.singleton_append, List.length_cons]
        congr 3
        omega
      · rw [hk k hne]
        simp [World.setCell, Array.getElem?_modify, Ne.symm hne]
  have := key vs 0 w cur hb (by simpa using hfit) hfr h1
  simpa using this

def vbd (σ : Nat → V) : Option Operand → Nat → Option Nat
  | none, d => some d
  | some x, _ => match ev σ x with
    | .val (.int _ i) => if 0 ≤ i then some i.toNat else none
    | _ => none

theorem vbd_val {a : Act} {F : Fz} {ν : Nu} {σ : Nat → V} (hm : Maps a F ν σ) {lo : Option Operand} {d l : Nat} (h : vbd σ lo d = some l) :
    (lo = none ∧ l = d) ∨ ∃ x k i, lo = some x ∧ a.eval x = .int k i ∧ 0 ≤ i ∧ i.toNat = l := by
  cases lo with
  | none => left; simpa [vbd, eq_comm] using h
  | some x =>
    right
    simp only [vbd] at h
    have hr := ev_rel hm x
    split at h
    · rename_i k i he
      rw [he] at hr
      split at h
      · rename_i h0
        exact ⟨x, k, i, rfl, rel_val hr, h0, by simpa using h⟩
      · cases h
    · cases h

theorem bound_run {P : Program} {w : World} {k : IntKind} {i : Int} {y : Nat} {code : BoundsCode} (h0 : 0 ≤ i) (h : i.toNat ≤ y) : (Instr.sliceBound (.int k i) y code).run P w = .ok i.toNat w := by
  have : i ≤ (y : Int) := by omega
  simp [Instr.sliceBound, asIntOf, h0, this]

theorem bounds_run {P : Program} {w : World} {a : Act} {F : Fz} {ν : Nu} {σ : Nat → V} (hm : Maps a F ν σ) {lo hi : Option Operand} {n c l h : Nat} {b : Bool} (hl : vbd σ lo 0 = some l) (hh : vbd σ hi n = some h) (h1 : l ≤ h) (h2 : h ≤ n) (h3 : n ≤ c) :
    (Instr.sliceBounds b n c (lo.map a.eval) (hi.map a.eval) none).run P w = .ok (l, h, c) w := by
  rcases vbd_val hm hl with ⟨rfl, rfl⟩ | ⟨x, k, i, rfl, ex, hx0, rfl⟩ <;> rcases vbd_val hm hh with ⟨rfl, rfl⟩ | ⟨y, k', i', rfl, ey, hy0, rfl⟩
  · simp [Instr.sliceBounds]
  · simp [Instr.sliceBounds, ey, bound_run hy0 (show i'.toNat ≤ c by omega)]
  · simp [Instr.sliceBounds, ex, bound_run hx0 h1]
  · simp [Instr.sliceBounds, ex, ey, bound_run hy0 (show i'.toNat ≤ c by omega), bound_run hx0 h1]

section
variable {P : Program} {B : Gd} {σ : Nat → V} {M : Hp} {id : Nat} {K : V → Hp → Prop} {dst : Option Nat} {ty : Nat} {pos : String} {after : Array Edge} {guard : Option (Nat × Bool)}

theorem w_indexAddr {t e sz : Nat} {x y : Operand} {k : IntKind} {i : Int} {u : V} (ht : elOf P t = some e) (hs : szOf P e = some sz) (hy : ev σ y = .val (.int k i)) (h0 : 0 ≤ i) (hu : vidx M sz (ev σ x) i.toNat = some u) (hK : K u M) :
    OpW P B ⟨dst, .indexAddr t x y, ty, pos, after, guard⟩ σ M id K := by
  refine opw_of hK fun ac w F ν hok hm => ?_
  have h2 := ev_rel hm y
  rw [hy] at h2
  have e2 := rel_val h2
  have h1 := ev_rel hm x
  generalize hv : ac.eval x = v at h1
  generalize ev σ x = ux at h1 hu
  cases h1 with
  | arr A n c sz0 els vals hn hc hm' hsz hce hA hr =>
    simp only [vidx] at hu
    cases he : els[i.toNat]? with
    | none => simp [he] at hu
    | some el =>
      simp only [he, Option.bind_some] at hu
      split at hu
      · rename_i hl
        simp only [Option.some.injEq] at hu
        subst hu
        have hlt := (List.getElem?_eq_some_iff.1 he).1
        obtain ⟨b, o, rfl, hf⟩ := hA (by omega)
        have hsz0 : sz0 = sz := (hsz _ _ he).symm.trans hl
        subst hsz0
        have hin : i < (n : Int) := by omega
        refine ⟨.pointer (some ⟨b, o + i.toNat * sz0, none⟩), by simp [execOp, hv, e2, Instr.indexAt, asIntOf, run_underlying (elOf_und ht), h0, hin, szOf_run hs, Addr.add_lit], ?_⟩
        exact .iptr b _ _ (fun j => vals i.toNat j) (fun j u hj => hce _ _ _ _ he hj) (fun j u hj => hf _ _ _ _ he hj) (fun j u hj => hr _ _ _ _ he hj)
      · cases hu
  | own id' a n c A kk hk hc hm' hA hB =>
    simp only [vidx] at hu
    split at hu
    · rename_i hlt
      cases hM : M id' with
      | none => simp [hM] at hu
      | some ob =>
        simp only [hM, Option.bind_some] at hu
        split at hu
        · rename_i hl
          simp only [Option.some.injEq] at hu
          subst hu
          have h4 := (hok.at hM hk).1.szEq
          obtain ⟨rfl, _⟩ := hA (by omega)
          have hin : i < (n : Int) := by omega
          refine ⟨.pointer (some ⟨kk.b, a * kk.sz + i.toNat * sz, none⟩), by simp [execOp, hv, e2, Instr.indexAt, asIntOf, run_underlying (elOf_und ht), h0, hin, szOf_run hs, Addr.add_lit], ?_⟩
          have := Rel.ptr (F := F) (ν := ν) id' (a + i.toNat) 0 kk hk
          have e3 : (a + i.toNat) * kk.sz + 0 = a * kk.sz + i.toNat * sz := by rw [h4, hl, Nat.add_mul]; rfl
          rw [e3] at this
          exact this
        · cases hu
    · cases hu
  | _ => simp [vidx] at hu

theorem w_index {t : Nat} {x y : Operand} {s : ByteArray} {k : IntKind} {i : Int} (ht : P.underlying t = some .string) (hx : ev σ x = .val (.string s)) (hy : ev σ y = .val (.int k i)) (h0 : 0 ≤ i) (h1 : i.toNat < s.data.toList.length)
    (hK : K (.val (.int .u8 (s.data.toList.getD i.toNat 0).toNat)) M) : OpW P B ⟨dst, .index t x y, ty, pos, after, guard⟩ σ M id K := by
  refine opw_of hK fun ac w F ν hok hm => ?_
  have h2 := ev_rel hm y
  rw [hy] at h2
  have e2 := rel_val h2
  have h3 := ev_rel hm x
  rw [hx] at h3
  have e3 := rel_val h3
  have hsz : i.toNat < s.size := by simpa using h1
  have hb : s[i.toNat]? = some (s.data.toList.getD i.toNat 0) := by
    rw [List.getD_eq_getElem?_getD, List.getElem?_eq_getElem h1]
    rw [getElem?_pos s i.toNat hsz]
    rfl
  exact ⟨_, by simp [execOp, e2, e3, Instr.index, asIntOf, run_underlying ht, h0, hb], .val _ rfl⟩

theorem w_sliceStr {t : Nat} {x : Operand} {lo hi : Option Operand} {s : ByteArray} {l h : Nat} (ht : P.underlying t = some .string) (hx : ev σ x = .val (.string s)) (hl : vbd σ lo 0 = some l) (hh : vbd σ hi s.data.toList.length = some h) (h1 : l ≤ h) (h2 : h ≤ s.data.toList.length)
    (hK : K (.val (str ((s.data.toList.drop l).take (h - l)))) M) : OpW P B ⟨dst, .slice t x lo hi none, ty, pos, after, guard⟩ σ M id K := by
  refine opw_of hK fun ac w F ν hok hm => ?_
  have h3 := ev_rel hm x
  rw [hx] at h3
  have e3 := rel_val h3
  have hs : s.data.toList.length = s.size := by simp
  rw [hs] at hh h2
  have hb := bounds_run (P := P) (w := w) (b := false) (c := s.size) hm hl hh h1 h2 (Nat.le_refl _)
  have he : s.extract l h = (⟨((s.data.toList.drop l).take (h - l)).toArray⟩ : ByteArray) := by
    apply ByteArray.ext
    apply Array.toList_inj.1
    rw [Lib.extract_data]
  exact ⟨str ((s.data.toList.drop l).take (h - l)), by simp [execOp, e3, Instr.sliceAt, Instr.slice, run_underlying ht, hb, he, str], .val _ rfl⟩

theorem w_slice {t e sz n l h : Nat} {x : Operand} {lo hi : Option Operand} {u : V} (ht : elOf P t = some e) (hs : szOf P e = some sz) (hn : vlen (ev σ x) = some n) (hl : vbd σ lo 0 = some l) (hh : vbd σ hi n = some h) (hu : vcut M sz (ev σ x) l h = some u) (hK : K u M) :
    OpW P B ⟨dst, .slice t x lo hi none, ty, pos, after, guard⟩ σ M id K := by
  refine opw_of hK fun ac w F ν hok hm => ?_
  have h1 := ev_rel hm x
  have run : ∀ A c, ac.eval x = .slice A n c → l ≤ h → h ≤ n → n ≤ c → (execOp ac.eval ⟨dst, .slice t x lo hi none, ty, pos, after, guard⟩).run P w = .ok (.value (.slice (if c = l then A else A.map (·.add (l * sz))) (h - l) (c - l))) w := by
    intro A c hv a1 a2 a3
    simp [execOp, hv, Instr.sliceAt, Instr.slice, run_underlying (elOf_und ht), bounds_run (P := P) (w := w) (b := true) hm hl hh a1 a2 a3, szOf_run hs]
  generalize hv : ac.eval x = v at h1
  generalize hux : ev σ x = ux at h1 hu hn
  cases h1 with
  | arr A n' c sz0 els vals hn' hc hm' hsz hce hA hr =>
    simp only [vlen, Option.some.injEq] at hn
    simp only [vcut] at hu
    split at hu
    · rename_i hc3
      obtain ⟨c1, c2, c3⟩ := hc3
      simp only [Option.some.injEq] at hu
      subst hu
      subst hn
      subst hn'
      refine ⟨_, run A c hv c1 c2 hc, ?_⟩
      have sub : ∀ (i : Nat) (el : List V), ((els.drop l).take (h - l))[i]? = some el → els[l + i]? = some el ∧ i < h - l := by
        intro i el hi
        rw [List.getElem?_take] at hi
        split at hi
        · rw [List.getElem?_drop] at hi
          exact ⟨hi, by assumption⟩
        · cases hi
      refine .arr _ _ _ sz0 _ (fun i j => vals (l + i) j) (by simp; omega) (by omega) (by omega) (fun i el hi => hsz _ _ (sub _ _ hi).1) (fun i el j u hi hj => hce _ _ _ _ (sub _ _ hi).1 hj) (fun h0 => ?_) (fun i el j u hi hj => hr _ _ _ _ (sub _ _ hi).1 hj)
      obtain ⟨b, o, rfl, hf⟩ := hA (by omega)
      have hcl : ¬ c = l := by omega
      have hsz0 : sz0 = sz := by
        have hlt : l < els.length := by omega
        have := hsz l els[l] (List.getElem?_eq_getElem hlt)
        rw [← this]
        exact c3 _ (List.getElem_mem hlt)
      subst hsz0
      refine ⟨b, o + l * sz0, by simp [hcl, Addr.add_lit], fun i el j u hi hj => ?_⟩
      have := hf _ _ _ _ (sub _ _ hi).1 hj
      rw [← this, Nat.add_mul]
      congr 1
      omega
    · cases hu
  | own id' a n' c A kk hk hc hm' hA hB =>
    simp only [vlen, Option.some.injEq] at hn
    subst hn
    simp only [vcut] at hu
    split at hu
    · rename_i hc3
      obtain ⟨c1, c2⟩ := hc3
      cases hM : M id' with
      | none => simp [hM] at hu
      | some ob =>
        simp only [hM, Option.bind_some] at hu
        split at hu
        · rename_i hl'
          simp only [Option.some.injEq] at hu
          subst hu
          have g4 := (hok.at hM hk).1.szEq
          refine ⟨_, run A c hv c1 c2 hc, ?_⟩
          refine .own id' (a + l) (h - l) (c - l) _ kk hk (by omega) (by omega) (fun h0 => ?_) ?_
          · have hcl : ¬ c = l := by omega
            obtain ⟨rfl, hcap⟩ := hA (by omega)
            refine ⟨?_, ?_⟩
            · simp only [hcl, if_false, Option.map_some, Addr.add_lit]
              rw [Nat.add_mul, g4, hl']
            · have : a + l + (c - l) = a + c := by omega
              rw [this]
              exact hcap
          · rcases hB with rfl | ⟨off, rfl, hv2⟩
            · left; split <;> rfl
            · right
              split
              · exact ⟨_, rfl, hv2⟩
              · exact ⟨off + l * sz, by simp [Addr.add_lit], hv2⟩
        · cases hu
    · cases hu
  | val v' hv' =>
    unfold vcut at hu
    split at hu
    · rename_i e'; cases e'
    · rename_i e'; cases e'
    · rename_i e'
      injection e' with e'
      subst e'
      split at hu
      · rename_i hc3
        obtain ⟨rfl, rfl⟩ := hc3
        simp only [Option.some.injEq] at hu
        subst hu
        simp only [vlen, Option.some.injEq] at hn
        subst hn
        refine ⟨_, run none 0 hv (Nat.le_refl _) (Nat.le_refl _) (Nat.le_refl _), ?_⟩
        simp
        exact .val _ rfl
      · cases hu
    · cases hu
  | _ => simp [vcut] at hu
end
end Go.Ka
namespace Go.Ka
open Go.RowKit
variable [Tab]

theorem heap_new (w : World) (o : Obj) : (w.alloc o).heap[w.heap.size]? = some o := heap_alloc_new w o
theorem heap_old (w : World) (o : Obj) {k : Nat} (h : k < w.heap.size) : (w.alloc o).heap[k]? = w.heap[k]? := Below.heap_alloc w o k h

theorem flat_at {α : Type} : ∀ (els : List (List α)) (sz : Nat), (∀ (i : Nat) (el : List α), els[i]? = some el → el.length = sz) → ∀ (i j : Nat) (el : List α) (u : α), els[i]? = some el → el[j]? = some u → els.flatten[i * sz + j]? = some u := by
  intro els sz
  induction els with
  | nil => intro _ i j el u h; simp at h
  | cons e r ih =>
    intro hl i j el u hi hj
    have he := hl 0 e rfl
    rw [List.flatten_cons]
    cases i with
    | zero =>
      simp at hi
      subst hi
      have := (List.getElem?_eq_some_iff.1 hj).1
      rw [Nat.zero_mul, Nat.zero_add, List.getElem?_append_left this, hj]
    | succ i =>
      simp at hi
      rw [List.getElem?_append_right (by rw [he, Nat.add_mul]; omega)]
      have : (i + 1) * sz + j - e.length = i * sz + j := by rw [he, Nat.add_mul]; omega
      rw [this]
      exact ih (fun i el h => hl (i + 1) el (by simpa using h)) i j el u hi hj

theorem flat_len {α : Type} : ∀ (els : List (List α)) (sz : Nat), (∀ el ∈ els, el.length = sz) → els.flatten.length = els.length * sz := by
  intro els sz
  induction els with
  | nil => intro _; simp
  | cons e r ih =>
    intro h
    rw [List.flatten_cons, List.length_append, ih (fun el hel => h el (by simp [hel])), h e (by simp), List.length_cons, Nat.add_mul]
    omega

section
variable {B : Gd} {F : Fz} {ν : Nu} {M : Hp} {w : World}

theorem Ok.notOb (h : Ok B F ν M w) {n : Nat} (hn : w.heap.size ≤ n) : ∀ id' o' k', M id' = some o' → ν id' = some k' → k'.vt = false → k'.b ≠ n := fun id' o' k' a b v e => by
  have := h.obLt a b v
  omega

theorem Ok.noF (h : Ok B F ν M w) {n : Nat} (hn : w.heap.size ≤ n) : ∀ x, F n x = none := fun x => by
  cases hf : F n x with
  | none => rfl
  | some v => have := h.lt hf; omega

theorem Ok.allocs (h : Ok B F ν M w) (o : Obj) : Ok B F ν M (w.alloc o) := h.on rfl rfl rfl (by simp) (fun b hb => heap_old w o hb)
theorem Ok.drewOn (h : Ok B F ν M w) : Ok B F ν M w.drew := h.on rfl rfl rfl (Nat.le_refl _) (fun _ _ => rfl)

/-- A new block whose first cells are an object's. -/
theorem Ok.made (h : Ok B F ν M w) {id : Nat} {o : Ob} {b : Nat} {cur : Array Value} {ty : TypeId} {fr : Nat × Nat} (hid : ν id = none) (hb : w.heap[b]? = some (.cells cur ty fr)) (hF : ∀ x, F b x = none)
    (hob : ∀ id' o' k', M id' = some o' → ν id' = some k' → k'.vt = false → k'.b ≠ b) (hB : B.D b ∨ B.w.heap.size ≤ b) (hfr : ∀ x, x < cur.size → ¬ (fr.1 ≤ x ∧ x < fr.2)) (hl : ∀ (i : Nat) (el : List V), o.els[i]? = some el → el.length = o.sz)
    (hs : o.els.length * o.sz ≤ cur.size) (hc : ∀ (i : Nat) (el : List V) (j : Nat) (u : V), o.els[i]? = some el → el[j]? = some u → u.cell = true ∧ ∃ v, cur[i * o.sz + j]? = some v ∧ Rel F ν v u) :
    Ok B F (setN ν id ⟨b, o.sz, cur.size, false, ty⟩) (setM M id (some o)) w ∧ Nu.le ν (setN ν id ⟨b, o.sz, cur.size, false, ty⟩) :=
  h.new hid (fun _ => hF) (fun _ => hob) (fun _ => hB) (.inl ⟨rfl, cur, ty, fr, hb, ⟨rfl, rfl⟩, hfr, rfl, hl, hs, hc⟩)

theorem setN_other {ν : Nu} {id : Nat} {k : Blk} : ∀ x, x ≠ id → setN ν id k x = ν x := fun x hx => by simp [setN, hx]
end

section
variable {P : Program} {B : Gd} {σ : Nat → V} {M : Hp} {id : Nat} {K : V → Hp → Prop} {dst : Option Nat} {ty : Nat} {pos : String} {after : Array Edge} {guard : Option (Nat × Bool)}

theorem w_box {t : Nat} {x : Operand} {cs : List V} (hx : vcells (ev σ x) = some cs) (hK : K (.ptr id 0 0) (setM M id (some ⟨[cs], cs.length⟩))) :
    OpW P B ⟨dst, .box t x, ty, pos, after, guard⟩ σ M id K := by
  refine opw_on hK fun ac w F ν hok hid hm => ?_
  obtain ⟨vs, hv, hl, hce, hr⟩ := vcells_rel (ev_rel hm x) hx
  have ok1 := hok.allocs (.cells vs.toArray t)
  have h2 := ok1.made (id := id) (o := ⟨[cs], cs.length⟩) (b := w.heap.size) (cur := vs.toArray) (ty := t) (fr := (0, 0)) hid (heap_new w _) (hok.noF (Nat.le_refl _)) (hok.notOb (Nat.le_refl _)) (.inr hok.size)
    (fun x _ => by simp) (fun i el hi => by cases i <;> simp at hi; subst hi; rfl) (by simp [hl]) (fun i el j u hi hj => by
      cases i <;> simp at hi
      subst hi
      obtain ⟨y, hy⟩ := get_of_length hl hj
      exact ⟨hce _ _ hj, y, by simpa using hy, hr _ _ _ hy hj⟩)
  refine ⟨.value (.pointer (some ⟨w.heap.size, 0, none⟩)), .pointer (some ⟨w.heap.size, 0, none⟩), _, F, _, by simp [execOp, Instr.box, newVar, newRow, hv], .inl rfl, h2.1, Fz.le_refl _, h2.2, setN_other, ?_⟩
  have := Rel.ptr (F := F) (ν := setN ν id ⟨w.heap.size, cs.length, vs.toArray.size, false, t⟩) id 0 0 ⟨w.heap.size, cs.length, vs.toArray.size, false, t⟩ (by simp [setN])
  simpa using this

def zcells (P : Program) (t : Nat) : Option (List V) :=
  match (P.info? t).bind (·.zero) with
  | some (.agg cs) => if cs.toList.all (·.oneCell') then some (cs.toList.map .val) else none
  | some v => if v.oneCell' then some [.val v] else none
  | none => none

theorem zcells_run {P : Program} {t : Nat} {cs : List V} (h : zcells P t = some cs) (w : World) : ∃ z, (zeroValue t).run P w = .ok z w ∧ ∃ vs : List Value, z.cells = vs.toArray ∧ cs = vs.map .val ∧ ∀ v ∈ vs, v.oneCell' = true := by
  unfold zcells at h
  cases hi : P.info? t with
  | none => simp [hi] at h
  | some i =>
    simp only [hi, Option.bind_some] at h
    cases hz : i.zero with
    | none => simp [hz] at h
    | some z =>
      refine ⟨z, by simp [zeroValue, typeInfo, hi, hz], ?_⟩
      rw [hz] at h
      cases z
      case agg c =>
        by_cases ha : c.toList.all (·.oneCell') = true
        · simp only [ha, if_true, Option.some.injEq] at h
          exact ⟨c.toList, by simp [Value.cells], h.symm, List.all_eq_true.1 ha⟩
        · simp only [ha, if_false, Bool.false_eq_true] at h
          cases h
      case tuple c => simp [Value.oneCell'] at h
      all_goals
        simp only [Value.oneCell', if_true, Option.some.injEq] at h
        exact ⟨[_], rfl, h.symm, fun v hv => by simp at hv; subst hv; rfl⟩

theorem w_alloc {t : Nat} {cs : List V} (hz : zcells P t = some cs) (hK : K (.ptr id 0 0) (setM M id (some ⟨[cs], cs.length⟩))) :
    OpW P B ⟨dst, .alloc t, ty, pos, after, guard⟩ σ M id K := by
  refine opw_on hK fun ac w F ν hok hid hm => ?_
  obtain ⟨z, hz1, vs, hv, rfl, h1⟩ := zcells_run hz w
  have ok1 := hok.allocs (.cells vs.toArray t)
  have h2 := ok1.made (id := id) (o := ⟨[vs.map .val], (vs.map V.val).length⟩) (b := w.heap.size) (cur := vs.toArray) (ty := t) (fr := (0, 0)) hid (heap_new w _) (hok.noF (Nat.le_refl _)) (hok.notOb (Nat.le_refl _)) (.inr hok.size)
    (fun x _ => by simp) (fun i el hi => by cases i <;> simp at hi; subst hi; rfl) (by simp) (fun i el j u hi hj => by
      cases i <;> simp at hi
      subst hi
      rw [List.getElem?_map] at hj
      cases hy : vs[j]? with
      | none => simp [hy] at hj
      | some y =>
        simp [hy] at hj
        subst hj
        exact ⟨rfl, y, by simpa using hy, .val y (h1 y (List.mem_of_getElem? hy))⟩)
  refine ⟨.value (.pointer (some ⟨w.heap.size, 0, none⟩)), .pointer (some ⟨w.heap.size, 0, none⟩), _, F, _, by simp [execOp, Instr.alloc, newVar, newRow, hv, hz1], .inl rfl, h2.1, Fz.le_refl _, h2.2, setN_other, ?_⟩
  have := Rel.ptr (F := F) (ν := setN ν id ⟨w.heap.size, (vs.map V.val).length, vs.toArray.size, false, t⟩) id 0 0 ⟨w.heap.size, (vs.map V.val).length, vs.toArray.size, false, t⟩ (by simp [setN])
  simpa using this

/-- An element with some of its cells turned. -/
def splice (el : List V) (off : Nat) (cs : List V) : List V := el.take off ++ cs ++ el.drop (off + cs.length)

theorem splice_len {el : List V} {off : Nat} {cs : List V} (h : off + cs.length ≤ el.length) : (splice el off cs).length = el.length := by
  simp [splice]
  omega

theorem splice_at {el cs : List V} {off j : Nat} (h : off + cs.length ≤ el.length) : (splice el off cs)[j]? = if off ≤ j ∧ j < off + cs.length then cs[j - off]? else el[j]? := by
  unfold splice
  have hlt : (el.take off).length = off := by rw [List.length_take]; omega
  by_cases h1 : j < off
  · rw [List.append_assoc, List.getElem?_append_left (by omega), List.getElem?_take, if_pos h1, if_neg (by omega)]
  · by_cases h2 : j < off + cs.length
    · rw [List.append_assoc, List.getElem?_append_right (by omega), hlt, List.getElem?_append_left (by omega), if_pos (by omega)]
    · rw [List.getElem?_append_right (by rw [List.length_append, hlt]; omega), List.length_append, hlt, List.getElem?_drop, if_neg (by omega)]
      congr 1
      omega

theorem w_store {t : Nat} {p x : Operand} {i j off : Nat} {o : Ob} {el cs : List V} (hs : szOf P t = some cs.length) (hp : ev σ p = .ptr i j off) (hx : vcells (ev σ x) = some cs) (hM : M i = some o) (he : o.els[j]? = some el) (hfit : off + cs.length ≤ el.length)
    (hK : K .any (setM M i (some ⟨o.els.set j (splice el off cs), o.sz⟩))) : OpW P B ⟨dst, .store t p x, ty, pos, after, guard⟩ σ M id K := by
  refine opw_on hK fun ac w F ν hok hid hm => ?_
  obtain ⟨vs, hv, hl, hce, hr⟩ := vcells_rel (ev_rel hm x) hx
  have h1 := ev_rel hm p
  rw [hp] at h1
  generalize hpv : ac.eval p = pv at h1
  cases h1 with
  | ptr _ _ _ k hk =>
    obtain ⟨hvt, cur, ty', fr, g1, ⟨g2, gty⟩, g3, g4, g5, g6, g7⟩ := (hok.at hM hk).1.real he
    have hlen := g5 _ _ he
    have hjlt := (List.getElem?_eq_some_iff.1 he).1
    have hmul : (j + 1) * o.sz ≤ o.els.length * o.sz := Nat.mul_le_mul_right _ hjlt
    have hfit' : j * k.sz + off + vs.length ≤ cur.size := by
      rw [g4, hl, g2]
      rw [Nat.add_mul] at hmul
      omega
    obtain ⟨w', hrun, hb', hk', hsz', ho, ht, hou⟩ := run_cells_at (P := P) g1 hfit' (by rw [g2]; exact g3) (fun v hv' => by
      obtain ⟨q, hq⟩ := List.mem_iff_getElem?.1 hv'
      obtain ⟨x', hx'⟩ := get_of_length hl.symm hq
      exact (hr _ _ _ hq hx').oneCell (hce _ _ hx'))
    have hcells : ((ac.eval x).cells).size = cs.length := by rw [hv]; simp [hl]
    refine ⟨.skip, undef, w', F, ν, ?_, .inr ⟨rfl, rfl⟩, ?_, Fz.le_refl _, Nu.le_refl _, fun _ _ => rfl, .any _⟩
    · simp only [execOp, Instr.storeAt, hpv, Instr.sureAddr, storeVar]
      rw [hv] at hcells ⊢
      simp only [Sem.run_bind, Sem.run_pure, Result.andThen, szOf_run hs, hcells, ne_eq, not_true_eq_false, if_false, hrun]
    · refine hok.world ho ht hou (by omega) hM hk hvt (fun b _ hne => hk' b hne) (.inl ⟨hvt, _, ty', fr, hb', ⟨?_, gty⟩, g3, g4, fun i' el' hi' => ?_, by simpa using g6, fun i' el' j' u hi' hj' => ?_⟩)
      · simp only [List.size_toArray, List.length_append, List.length_take, List.length_drop, Array.length_toList]
        omega
      · rw [List.getElem?_set] at hi'
        by_cases hij : j = i'
        · rw [if_pos hij, if_pos hjlt] at hi'
          simp at hi'
          subst hi'
          rw [splice_len hfit]
          exact hlen
        · rw [if_neg hij] at hi'
          exact g5 _ _ hi'
      · have hA : (j * k.sz + off) = j * o.sz + off := by rw [g4]
        have hcell : ∀ q, ((cur.toList.take (j * k.sz + off) ++ vs ++ cur.toList.drop (j * k.sz + off + vs.length)).toArray)[q]? = if j * o.sz + off ≤ q ∧ q < j * o.sz + off + vs.length then vs[q - (j * o.sz + off)]? else cur[q]? := by
          intro q
          rw [hA] at hfit' ⊢
          have hlt : (cur.toList.take (j * o.sz + off)).length = j * o.sz + off := by rw [List.length_take, Array.length_toList]; omega
          rw [List.getElem?_toArray]
          by_cases h1 : q < j * o.sz + off
          · rw [List.append_assoc, List.getElem?_append_left (by omega), List.getElem?_take, if_pos h1, if_neg (by omega)]
            simp
          · by_cases h2 : q < j * o.sz + off + vs.length
            · rw [List.append_assoc, List.getElem?_append_right (by omega), hlt, List.getElem?_append_left (by omega), if_pos (by omega)]
            · rw [List.getElem?_append_right (by rw [List.length_append, hlt]; omega), List.length_append, hlt, List.getElem?_drop, if_neg (by omega)]
              simp only [Array.getElem?_toList]
              congr 1
              omega
        dsimp only at hi' ⊢
        rw [hcell]
        rw [List.getElem?_set] at hi'
        by_cases hij : j = i'
        · subst hij
          simp only [if_true, hjlt] at hi'
          simp at hi'
          subst hi'
          rw [splice_at hfit] at hj'
          by_cases hin : off ≤ j' ∧ j' < off + cs.length
          · rw [if_pos hin] at hj'
            rw [if_pos (by omega)]
            obtain ⟨y, hy⟩ := get_of_length hl hj'
            have e3 : j * o.sz + j' - (j * o.sz + off) = j' - off := by omega
            rw [e3]
            exact ⟨hce _ _ hj', y, hy, hr _ _ _ hy hj'⟩
          · rw [if_neg hin] at hj'
            rw [if_neg (by omega)]
            exact g7 _ _ _ _ he hj'
        · rw [if_neg hij] at hi'
          have hl' := g5 _ _ hi'
          have hj'lt := (List.getElem?_eq_some_iff.1 hj').1
          rw [if_neg (fun hc => ?_)]
          · exact g7 _ _ _ _ hi' hj'
          · rcases Nat.lt_or_gt_of_ne hij with h3 | h3
            · have : (j + 1) * o.sz ≤ i' * o.sz := Nat.mul_le_mul_right _ h3
              rw [Nat.add_mul] at this
              omega
            · have : (i' + 1) * o.sz ≤ j * o.sz := Nat.mul_le_mul_right _ h3
              rw [Nat.add_mul] at this
              omega
end
end Go.Ka
namespace Go.Ka
open Go.RowKit
variable [Tab]

/-- Cells and what they read as. -/
def RL (F : Fz) (ν : Nu) (vs : List Value) (cs : List V) : Prop :=
  vs.length = cs.length ∧ (∀ (j : Nat) (x : V), cs[j]? = some x → x.cell = true) ∧ ∀ (j : Nat) (y : Value) (x : V), vs[j]? = some y → cs[j]? = some x → Rel F ν y x

def spliceV (l : List Value) (off : Nat) (vs : List Value) : List Value := l.take off ++ vs ++ l.drop (off + vs.length)

theorem spliceV_at {l vs : List Value} {off j : Nat} (h : off + vs.length ≤ l.length) : (spliceV l off vs)[j]? = if off ≤ j ∧ j < off + vs.length then vs[j - off]? else l[j]? := by
  unfold spliceV
  have hlt : (l.take off).length = off := by rw [List.length_take]; omega
  by_cases h1 : j < off
  · rw [List.append_assoc, List.getElem?_append_left (by omega), List.getElem?_take, if_pos h1, if_neg (by omega)]
  · by_cases h2 : j < off + vs.length
    · rw [List.append_assoc, List.getElem?_append_right (by omega), hlt, List.getElem?_append_left (by omega), if_pos (by omega)]
    · rw [List.getElem?_append_right (by rw [List.length_append, hlt]; omega), List.length_append, hlt, List.getElem?_drop, if_neg (by omega)]
      congr 1
      omega

theorem RL.splice {F : Fz} {ν : Nu} {vs us : List Value} {cs ds : List V} {off : Nat} (h : RL F ν vs cs) (h' : RL F ν us ds) (hf : off + ds.length ≤ cs.length) : RL F ν (spliceV vs off us) (splice cs off ds) := by
  obtain ⟨h1, h2, h3⟩ := h
  obtain ⟨g1, g2, g3⟩ := h'
  refine ⟨by simp [spliceV, Ka.splice]; omega, fun j x hj => ?_, fun j y x hy hx => ?_⟩
  · rw [splice_at hf] at hj
    split at hj
    · exact g2 _ _ hj
    · exact h2 _ _ hj
  · rw [splice_at hf] at hx
    rw [spliceV_at (by omega)] at hy
    by_cases hc : off ≤ j ∧ j < off + ds.length
    · rw [if_pos hc] at hx
      rw [if_pos (by omega)] at hy
      exact g3 _ _ _ hy hx
    · rw [if_neg hc] at hx
      rw [if_neg (by omega)] at hy
      exact h3 _ _ _ hy hx

theorem fold_set (off : Nat) : ∀ (vs : List Value) (k : Nat) (l : List Value), off + k + vs.length ≤ l.length →
    ((vs.zipIdx k).foldl (fun (cs : Array Value) (p : Value × Nat) => cs.setIfInBounds (off + p.2) p.1) l.toArray) = (spliceV l (off + k) vs).toArray := by
  intro vs
  induction vs with
  | nil => intro k l _; simp [spliceV]
  | cons v r ih =>
    intro k l h
    simp only [List.length_cons] at h
    simp only [List.zipIdx_cons, List.foldl_cons]
    rw [List.setIfInBounds_toArray, ih (k + 1) (l.set (off + k) v) (by simp; omega)]
    congr 1
    unfold spliceV
    have e1 : off + (k + 1) = off + k + 1 := by omega
    rw [e1, take_set_succ l (off + k) v (by omega), List.drop_set_of_lt (by omega)]
    simp only [List.append_assoc, List.singleton_append, List.length_cons]
    have e2 : off + k + 1 + r.length = off + k + (r.length + 1) := by omega
    rw [e2]

theorem fill_cons {place : Nat → Option (Nat × Nat)} {l vs : List Value} {i off : Nat} {v : Value} {rest : List (Nat × Value)} (hp : place i = some (off, vs.length)) (hv : v.cells = vs.toArray) (hf : off + vs.length ≤ l.length) :
    Instr.fill place l.toArray ((i, v) :: rest) = Instr.fill place (spliceV l off vs).toArray rest := by
  have h := fold_set off vs 0 l (by omega)
  rw [Instr.fill, hp]
  simp only [hv, List.size_toArray]
  rw [if_neg (by simp; omega)]
  rw [Nat.add_zero] at h
  have h2 : Array.foldl (fun (cs : Array Value) (x : Value × Nat) => cs.setIfInBounds (off + x.2) x.1) l.toArray vs.toArray.zipIdx = (spliceV l off vs).toArray := by
    rw [← h, ← Array.foldl_toList, Array.toList_zipIdx]
  exact congrArg (fun c => Instr.fill place c rest) h2

/-- The parts laid over the cells. -/
def vfill (pl : Nat → Option (Nat × Nat)) : List (Nat × V) → List V → Option (List V)
  | [], cs => some cs
  | (i, u) :: r, cs => match pl i, vcells u with
    | some (d, n), some us => if us.length = n ∧ d + n ≤ cs.length then vfill pl r (splice cs d us) else none
    | _, _ => none

theorem vfill_run {F : Fz} {ν : Nu} {pl : Nat → Option (Nat × Nat)} : ∀ (ps : List (Nat × V)) (qs : List (Nat × Value)) (cs : List V) (vs : List Value) (ds : List V), ps.length = qs.length →
    (∀ (j i : Nat) (u : V), ps[j]? = some (i, u) → ∃ v, qs[j]? = some (i, v) ∧ Rel F ν v u) → RL F ν vs cs → vfill pl ps cs = some ds → ∃ ws, Instr.fill pl vs.toArray qs = some ws.toArray ∧ RL F ν ws ds := by
  intro ps
  induction ps with
  | nil =>
    intro qs cs vs ds hl _ hr h
    cases qs with
    | nil =>
      simp only [vfill, Option.some.injEq] at h
      subst h
      exact ⟨vs, rfl, hr⟩
    | cons => simp at hl
  | cons p r ih =>
    intro qs cs vs ds hl hq hr h
    obtain ⟨i, u⟩ := p
    cases qs with
    | nil => simp at hl
    | cons q qs =>
      obtain ⟨v, hv, hru⟩ := hq 0 i u rfl
      simp at hv
      subst hv
      unfold vfill at h
      split at h
      · rename_i d n us hp hu
        split at h
        · rename_i hc
          obtain ⟨rfl, hfit⟩ := hc
          obtain ⟨ws, hw, hlw, hce, hrw⟩ := vcells_rel hru hu
          have hrl : RL F ν ws us := ⟨hlw, hce, hrw⟩
          rw [← hlw] at hp
          rw [fill_cons hp hw (by rw [hr.1, hlw]; exact hfit)]
          exact ih qs _ _ ds (by simpa using hl) (fun j i u hj => hq (j + 1) i u (by simpa using hj)) (hr.splice hrl hfit) h
        · cases h
      · cases h

def plOf (P : Program) (t : Nat) : Option (List (Nat × Nat)) := match P.underlying t with
  | some (.struct fs) => fs.toList.mapM fun f => (P.info? f.type).map fun i => (f.offset, i.size)
  | _ => none

theorem zcells_info {P : Program} {t : Nat} {cs : List V} (h : zcells P t = some cs) : ∃ i z, P.info? t = some i ∧ i.zero = some z ∧ ∃ vs : List Value, z.cells = vs.toArray ∧ cs = vs.map .val ∧ ∀ v ∈ vs, v.oneCell' = true := by
  obtain ⟨z, hz, rest⟩ := zcells_run h (default : World)
  unfold zcells at h
  cases hi : P.info? t with
  | none => simp [hi] at h
  | some i =>
    simp only [hi, Option.bind_some] at h
    cases hz' : i.zero with
    | none => simp [hz'] at h
    | some z' =>
      simp [zeroValue, typeInfo, hi, hz'] at hz
      subst hz
      exact ⟨i, _, rfl, hz', rest⟩

theorem RL.vals {F : Fz} {ν : Nu} {vs : List Value} (h : ∀ v ∈ vs, v.oneCell' = true) : RL F ν vs (vs.map .val) := by
  refine ⟨by simp, fun j x hj => ?_, fun j y x hy hx => ?_⟩
  · rw [List.getElem?_map] at hj
    cases hv : vs[j]? with
    | none => simp [hv] at hj
    | some v => simp [hv] at hj; subst hj; rfl
  · rw [List.getElem?_map, hy] at hx
    simp at hx
    subst hx
    exact .val y (h y (List.mem_of_getElem? hy))

theorem RL.agg {F : Fz} {ν : Nu} {vs : List Value} {cs : List V} (h : RL F ν vs cs) : Rel F ν (.agg vs.toArray) (.agg cs) := .agg vs cs h.1 h.2.1 h.2.2

def evs (σ : Nat → V) (ps : List (Nat × Operand)) : List (Nat × V) := ps.map fun p => (p.1, ev σ p.2)

section
variable {P : Program} {B : Gd} {σ : Nat → V} {M : Hp} {id : Nat} {K : V → Hp → Prop} {dst : Option Nat} {ty : Nat} {pos : String} {after : Array Edge} {guard : Option (Nat × Bool)}

theorem parts_rel {ac : Act} {F : Fz} {ν : Nu} (hm : Maps ac F ν σ) (ps : List (Nat × Operand)) : (evs σ ps).length = (ps.map fun p => (p.1, ac.eval p.2)).length ∧
    ∀ (j i : Nat) (u : V), (evs σ ps)[j]? = some (i, u) → ∃ v, (ps.map fun p => (p.1, ac.eval p.2))[j]? = some (i, v) ∧ Rel F ν v u := by
  refine ⟨by simp [evs], fun j i u hj => ?_⟩
  simp only [evs, List.getElem?_map] at hj ⊢
  cases hp : ps[j]? with
  | none => simp [hp] at hj
  | some p =>
    simp [hp] at hj
    obtain ⟨rfl, rfl⟩ := hj
    exact ⟨_, by simp, ev_rel hm p.2⟩

theorem w_build {t : Nat} {parts : Array (Nat × Operand)} {pl : List (Nat × Nat)} {zs cs : List V} (hz : zcells P t = some zs) (hp : plOf P t = some pl) (hc : vfill (pl[·]?) (evs σ parts.toList) zs = some cs) (hK : K (.agg cs) M) :
    OpW P B ⟨dst, .build t parts, ty, pos, after, guard⟩ σ M id K := by
  refine opw_of hK fun ac w F ν hok hm => ?_
  obtain ⟨i, z, hi, hz1, vs, hv, rfl, h1⟩ := zcells_info hz
  obtain ⟨hl, hq⟩ := parts_rel hm parts.toList
  obtain ⟨ws, hw, hr⟩ := vfill_run _ _ _ _ _ hl hq (RL.vals (F := F) (ν := ν) h1) hc
  have hb : P.built t (parts.map fun p => (p.1, ac.eval p.2)).toList = some ws.toArray := by
    unfold plOf at hp
    cases hu : P.underlying t with
    | none => simp [hu] at hp
    | some d =>
      cases d <;> simp [hu] at hp
      rename_i fs
      unfold Program.built
      simp only [hi, hu, hz1, hp, hv, Array.toList_map]
      simpa using hw
  exact ⟨.agg ws.toArray, by simp [execOp, run_build w t _ _ hb], hr.agg⟩

theorem w_makeFunc {f : Nat} {caps : Array Operand} (hK : K (.fn f (caps.toList.map (ev σ))) M) : OpW P B ⟨dst, .makeFunc (.func f) #[] caps, ty, pos, after, guard⟩ σ M id K := by
  refine opw_of hK fun ac w F ν hok hm => ?_
  refine ⟨.func (.func f) #[] (caps.toList.map ac.eval).toArray, by simp [execOp, Instr.makeFunc, ← Array.toList_map], ?_⟩
  refine .fn f _ _ (by simp) (fun j v u hv hu => ?_)
  rw [List.getElem?_map] at hv hu
  cases hx : caps.toList[j]? with
  | none => simp [hx] at hv
  | some x =>
    simp [hx] at hv hu
    subst hv; subst hu
    exact ev_rel hm x

def wordOf (P : Program) (t : Nat) : Option IntKind := match P.underlying t with | some (.int k) => some k | _ => none
theorem wordOf_und {P : Program} {t : Nat} {k : IntKind} (h : wordOf P t = some k) : P.underlying t = some (.int k) := by
  unfold wordOf at h
  split at h
  · cases h; assumption
  · cases h

theorem w_convInt {src d : Nat} {x : Operand} {k k' : IntKind} {n : Int} (hs : (P.underlying src).isSome = true) (hd : wordOf P d = some k') (hx : ev σ x = .val (.int k n)) (hK : K (.val (.int k' (k'.wrap n))) M) :
    OpW P B ⟨dst, .convert src d x, ty, pos, after, guard⟩ σ M id K := by
  refine opw_of hK fun ac w F ν hok hm => ?_
  have h1 := ev_rel hm x
  rw [hx] at h1
  have e1 := rel_val h1
  obtain ⟨u, hu⟩ := Option.isSome_iff_exists.1 hs
  refine ⟨.int k' (k'.wrap n), ?_, .val _ rfl⟩
  simp only [execOp, e1]
  simp [convert, run_underlying hu, run_underlying (wordOf_und hd), Conv.intToInt]

theorem w_convStr {src d : Nat} {x : Operand} {s : ByteArray} (hs : isStr P src = true) (hd : isStr P d = true) (hx : ev σ x = .val (.string s)) (hK : K (.val (.string s)) M) :
    OpW P B ⟨dst, .convert src d x, ty, pos, after, guard⟩ σ M id K := by
  refine opw_of hK fun ac w F ν hok hm => ?_
  have h1 := ev_rel hm x
  rw [hx] at h1
  have e1 := rel_val h1
  refine ⟨.string s, ?_, .val _ rfl⟩
  simp only [execOp, e1]
  simp [convert, run_underlying (isStr_und hs), run_underlying (isStr_und hd)]

/-- A byte, as an element. -/
def byteEl (b : UInt8) : List V := [.val (.int .u8 b.toNat)]

theorem w_toBytes {src d e : Nat} {x : Operand} {s : ByteArray} (hs : isStr P src = true) (hd : elOf P d = some e) (he : wordOf P e = some .u8) (hx : ev σ x = .val (.string s)) (hb : s.data.toList.length ≤ maxLen)
    (hK : K (.own id 0 s.data.toList.length) (setM M id (some ⟨s.data.toList.map byteEl, 1⟩))) : OpW P B ⟨dst, .convert src d x, ty, pos, after, guard⟩ σ M id K := by
  refine opw_on hK fun ac w F ν hok hid hm => ?_
  have h1 := ev_rel hm x
  rw [hx] at h1
  have e1 := rel_val h1
  have hrun := Lib.run_convert_string_bytes (P := P) w src d e s (isStr_und hs) (elOf_und hd) (wordOf_und he)
  have hsz : s.data.toList.length = s.size := by simp
  have hnew := Lib.bytesWorld_at_new w e s
  have hcap : s.size ≤ grownCap w s.size 0 e := grownCap_ge w _ _ _
  have hcm : grownCap w s.size 0 e ≤ maxLen := grownCap_le_maxLen w _ _ _ (by omega)
  have hcells : (Lib.bytesCells w e s).size = grownCap w s.size 0 e := by
    simp [Lib.bytesCells]
    have : s.data.size = s.size := rfl
    omega
  have ok1 : Ok B F ν M (Lib.bytesWorld w e s) := hok.on rfl rfl rfl (by rw [Lib.bytesWorld_size]; omega) (fun b hb => Lib.bytesWorld_at_old w e s b hb)
  have h2 := ok1.made (id := id) (o := ⟨s.data.toList.map byteEl, 1⟩) hid hnew (hok.noF (Nat.le_refl _)) (hok.notOb (Nat.le_refl _)) (.inr hok.size) (fun x hx => by simp; omega)
    (fun i el hi => by
      rw [List.getElem?_map] at hi
      cases hy : s.data.toList[i]? with
      | none => simp [hy] at hi
      | some y => simp [hy] at hi; subst hi; rfl) (by rw [hcells, List.length_map, hsz]; simpa using hcap) (fun i el j u hi hj => by
      rw [List.getElem?_map] at hi
      cases hy : s.data.toList[i]? with
      | none => simp [hy] at hi
      | some y =>
        simp [hy] at hi
        subst hi
        cases j with
        | succ j => simp [byteEl] at hj
        | zero =>
          simp [byteEl] at hj
          subst hj
          refine ⟨rfl, .int .u8 y.toNat, ?_, .val _ rfl⟩
          have hlt := (List.getElem?_eq_some_iff.1 hy).1
          unfold Lib.bytesCells
          rw [Array.getElem?_append_left (by simpa using hlt)]
          simp only [Nat.mul_one, Nat.add_zero, Array.getElem?_map]
          rw [← Array.getElem?_toList, hy]
          rfl)
  refine ⟨.value (.slice (some ⟨w.heap.size, 0, none⟩) s.size (grownCap w s.size 0 e)), .slice (some ⟨w.heap.size, 0, none⟩) s.size (grownCap w s.size 0 e), _, F, _, ?_, .inl rfl, h2.1, Fz.le_refl _, h2.2, setN_other, ?_⟩
  · simp only [execOp, e1]
    simp [hrun]
  · rw [hsz]
    exact .own id 0 s.size _ _ ⟨w.heap.size, 1, (Lib.bytesCells w e s).size, false, e⟩ (by simp [setN]) hcap hcm (fun _ => ⟨by simp, by simp [hcells]⟩) (.inr ⟨_, rfl, rfl⟩)
end
end Go.Ka
namespace Go.Ka
open Go.RowKit
variable [Tab]

def vels (M : Hp) (sz : Nat) : V → Option (List (List V))
  | .arr els => if ∀ el ∈ els, el.length = sz then some els else none
  | .own id a n => (M id).bind fun o => if o.sz = sz ∧ a + n ≤ o.els.length then some ((o.els.drop a).take n) else none
  | .val (.slice none 0 0) => some []
  | _ => none

theorem Ok.element {B : Gd} {F : Fz} {ν : Nu} {M : Hp} {w : World} (_hok : Ok B F ν M w) {sz b o : Nat} {els : List (List V)} (hl : ∀ el ∈ els, el.length = sz)
    (hc : ∀ (i : Nat) (el : List V) (j : Nat) (u : V), els[i]? = some el → el[j]? = some u → u.cell = true ∧ ∃ v, w.cell? ⟨b, o + (i * sz + j), none⟩ = some v ∧ Rel F ν v u) :
    ∃ news : List Value, news.length = els.length * sz ∧ RL F ν news els.flatten ∧ ∀ (j : Nat) (y : Value), news[j]? = some y → w.cell? ⟨b, o + j, none⟩ = some y := by
  have hfl := flat_len els sz hl
  have hat : ∀ q, q < els.length * sz → ∃ u v, els.flatten[q]? = some u ∧ u.cell = true ∧ w.cell? ⟨b, o + q, none⟩ = some v ∧ Rel F ν v u := by
    intro q hq
    have hsz : 0 < sz := by
      rcases Nat.eq_zero_or_pos sz with h | h
      · rw [h] at hq; simp at hq
      · exact h
    have hi : q / sz < els.length := Nat.div_lt_of_lt_mul (by rw [Nat.mul_comm]; exact hq)
    have hj : q % sz < sz := Nat.mod_lt _ hsz
    have he : els[q / sz]? = some els[q / sz] := List.getElem?_eq_getElem hi
    have hel : els[q / sz].length = sz := hl _ (List.getElem_mem hi)
    have hu : els[q / sz][q % sz]? = some els[q / sz][q % sz] := List.getElem?_eq_getElem (by omega)
    have hq' : q / sz * sz + q % sz = q := Nat.div_add_mod' q sz
    obtain ⟨h1, v, h2, h3⟩ := hc _ _ _ _ he hu
    have h4 := flat_at els sz (fun i el h => hl el (List.mem_of_getElem? h)) _ _ _ _ he hu
    rw [hq'] at h2 h4
    exact ⟨_, v, h4, h1, h2, h3⟩
  refine ⟨(List.range (els.length * sz)).map fun q => (w.cell? ⟨b, o + q, none⟩).getD undef, by simp, ⟨by simp [hfl], fun q x hx => ?_, fun q y x hy hx => ?_⟩, fun q y hy => ?_⟩
  · have hq : q < els.length * sz := by rw [← hfl]; exact (List.getElem?_eq_some_iff.1 hx).1
    obtain ⟨u, v, h1, h2, _⟩ := hat q hq
    rw [hx] at h1
    cases h1
    exact h2
  · have hq : q < els.length * sz := by rw [← hfl]; exact (List.getElem?_eq_some_iff.1 hx).1
    obtain ⟨u, v, h1, h2, h3, h4⟩ := hat q hq
    rw [hx] at h1
    cases h1
    rw [List.getElem?_map, List.getElem?_range hq] at hy
    simp [h3] at hy
    subst hy
    exact h4
  · have hq : q < els.length * sz := by have := (List.getElem?_eq_some_iff.1 hy).1; simpa using this
    obtain ⟨u, v, h1, h2, h3, h4⟩ := hat q hq
    rw [List.getElem?_map, List.getElem?_range hq] at hy
    simp [h3] at hy
    subst hy
    exact h3

theorem vels_src {B : Gd} {F : Fz} {ν : Nu} {M : Hp} {w : World} (hok : Ok B F ν M w) {sz : Nat} {v : Value} {u : V} (hr : Rel F ν v u) {els : List (List V)} (h : vels M sz u = some els) :
    (∀ el ∈ els, el.length = sz) ∧ ∃ A c, ∃ news : List Value, v = .slice A els.length c ∧ els.length ≤ c ∧ c ≤ maxLen ∧ news.length = els.length * sz ∧ RL F ν news els.flatten ∧
      ((∃ b o, A = some ⟨b, o, none⟩ ∧ ∀ (j : Nat) (y : Value), news[j]? = some y → w.cell? ⟨b, o + j, none⟩ = some y) ∨ els = []) := by
  cases hr with
  | arr A n c sz0 els' vals hn hc hm hsz hce hA hr' =>
    simp only [vels] at h
    split at h
    · rename_i hl
      simp only [Option.some.injEq] at h
      subst h
      refine ⟨hl, ?_⟩
      subst hn
      cases els' with
      | nil => exact ⟨A, c, [], rfl, hc, hm, by simp, ⟨rfl, fun j x hx => by simp at hx, fun j y x hy => by simp at hy⟩, .inr rfl⟩
      | cons e0 r =>
        obtain ⟨b, o, rfl, hf⟩ := hA (by simp)
        have hsz0 : sz0 = sz := (hsz 0 e0 rfl).symm.trans (hl e0 (by simp))
        subst hsz0
        obtain ⟨news, h1, h2, h3⟩ := hok.element (b := b) (o := o) hl (fun i el j u hi hj => ⟨hce _ _ _ _ hi hj, _, by rw [← Nat.add_assoc]; exact hok.fz _ _ _ (hf _ _ _ _ hi hj), hr' _ _ _ _ hi hj⟩)
        exact ⟨_, c, news, rfl, hc, hm, h1, h2, .inl ⟨b, o, rfl, h3⟩⟩
    · cases h
  | own id a n c A k hk hc hm hA hB =>
    simp only [vels] at h
    cases hM : M id with
    | none => simp [hM] at h
    | some ob =>
      simp only [hM, Option.bind_some] at h
      split at h
      · rename_i hl
        obtain ⟨rfl, hle⟩ := hl
        simp only [Option.some.injEq] at h
        subst h
        have hat := (hok.at hM hk).1
        have g4 := hat.szEq
        have g5 := hat.lens
        have hsub : ∀ (i : Nat) (el : List V), ((ob.els.drop a).take n)[i]? = some el → ob.els[a + i]? = some el := by
          intro i el hi
          rw [List.getElem?_take] at hi
          split at hi
          · rw [List.getElem?_drop] at hi
            exact hi
          · cases hi
        have hlen : ((ob.els.drop a).take n).length = n := by simp; omega
        have hl : ∀ el ∈ (ob.els.drop a).take n, el.length = ob.sz := fun el hel => by
          obtain ⟨i, hi⟩ := List.mem_iff_getElem?.1 hel
          exact g5 _ _ (hsub _ _ hi)
        refine ⟨hl, ?_⟩
        rw [hlen]
        by_cases h0 : n = 0
        · subst h0
          exact ⟨A, c, [], rfl, hc, hm, by simp, by simp [RL], .inr (by simp)⟩
        · obtain ⟨rfl, _⟩ := hA (by omega)
          obtain ⟨news, h1, h2, h3⟩ := hok.element (b := k.b) (o := a * k.sz) hl (fun i el j u hi hj => by
            obtain ⟨hx, y, hy, hry⟩ := hat.els _ _ _ _ (hsub _ _ hi) hj
            refine ⟨hx, y, ?_, hry⟩
            rw [g4, ← Nat.add_assoc, ← Nat.add_mul]
            exact hy)
          rw [hlen] at h1
          exact ⟨_, c, news, rfl, hc, hm, h1, h2, .inl ⟨_, _, rfl, h3⟩⟩
      · cases h
  | val v' hv =>
    unfold vels at h
    split at h
    · rename_i e; cases e
    · rename_i e; cases e
    · rename_i e
      injection e with e
      subst e
      simp only [Option.some.injEq] at h
      subst h
      exact ⟨by simp, none, 0, [], rfl, Nat.le_refl _, by unfold maxLen; omega, by simp, ⟨rfl, fun j x hx => by simp at hx, fun j y x hy => by simp at hy⟩, .inr rfl⟩
    · cases h
  | _ => simp [vels] at h

/-- The cells that an append or a copy reads. -/
theorem first_run {P : Program} {w : World} {sz n c : Nat} {A : Option Addr} {news : List Value} (hl : news.length = n * sz)
    (h : (∃ b o, A = some ⟨b, o, none⟩ ∧ ∀ (j : Nat) (y : Value), news[j]? = some y → w.cell? ⟨b, o + j, none⟩ = some y) ∨ n = 0) : (Builtin.firstCells sz n (.slice A n c)).run P w = .ok news.toArray w := by
  rcases h with ⟨b, o, rfl, hc⟩ | rfl
  · exact run_firstCells_some w sz n ⟨b, o, none⟩ n c news hl (fun j v hj => by rw [Addr.add_lit]; exact hc j v hj)
  · have : news = [] := by
      rw [Nat.zero_mul] at hl
      exact List.eq_nil_of_length_eq_zero hl
    subst this
    cases A with
    | none => simp [Builtin.firstCells]
    | some a => exact run_firstCells_some w sz 0 a 0 c [] (by simp) (fun j v hj => by simp at hj)

theorem els_of_nil {els : List (List V)} (h : els = []) : els.length = 0 := by rw [h]; rfl

def bytOf (P : Program) (t : Nat) : Option Nat := (P.info? t).map (·.bytes)

theorem RL.append {F : Fz} {ν : Nu} {vs us : List Value} {cs ds : List V} (h : RL F ν vs cs) (h' : RL F ν us ds) : RL F ν (vs ++ us) (cs ++ ds) := by
  obtain ⟨h1, h2, h3⟩ := h
  obtain ⟨g1, g2, g3⟩ := h'
  refine ⟨by simp [h1, g1], fun j x hj => ?_, fun j y x hy hx => ?_⟩
  · rw [List.getElem?_append] at hj
    split at hj
    · exact h2 _ _ hj
    · exact g2 _ _ hj
  · rw [List.getElem?_append] at hy hx
    rw [h1] at hy
    split at hx
    · rename_i hc
      rw [if_pos hc] at hy
      exact h3 _ _ _ hy hx
    · rename_i hc
      rw [if_neg hc] at hy
      exact g3 _ _ _ hy hx

theorem RL.mono {F F' : Fz} {ν ν' : Nu} (hF : Fz.le F F') (hN : Nu.le ν ν') {vs : List Value} {cs : List V} (h : RL F ν vs cs) : RL F' ν' vs cs :=
  ⟨h.1, h.2.1, fun j y x a b => (h.2.2 j y x a b).mono hF hN⟩

/-- A block's cells read as elements. -/
theorem RL.elements {F : Fz} {ν : Nu} {vs rest : List Value} {els : List (List V)} {sz : Nat} (h : RL F ν vs els.flatten) (hl : ∀ el ∈ els, el.length = sz) {cur : Array Value} (hc : cur.toList = vs ++ rest) :
    els.length * sz ≤ cur.size ∧ ∀ (i : Nat) (el : List V) (j : Nat) (u : V), els[i]? = some el → el[j]? = some u → u.cell = true ∧ ∃ v, cur[i * sz + j]? = some v ∧ Rel F ν v u := by
  have hfl := flat_len els sz hl
  refine ⟨by rw [← Array.length_toList, hc, List.length_append, h.1, hfl]; omega, fun i el j u hi hj => ?_⟩
  have hu := flat_at els sz (fun i el h => hl el (List.mem_of_getElem? h)) i j el u hi hj
  obtain ⟨y, hy⟩ := get_of_length h.1 hu
  have hlt := (List.getElem?_eq_some_iff.1 hy).1
  exact ⟨h.2.1 _ _ hu, y, by rw [← Array.getElem?_toList, hc, List.getElem?_append_left hlt, hy], h.2.2 _ _ _ hy hu⟩

theorem RL.one {F : Fz} {ν : Nu} {vs : List Value} {cs : List V} (h : RL F ν vs cs) : ∀ v ∈ vs, v.oneCell' = true := fun v hv => by
  obtain ⟨q, hq⟩ := List.mem_iff_getElem?.1 hv
  obtain ⟨x', hx'⟩ := get_of_length h.1.symm hq
  exact (h.2.2 _ _ _ hq hx').oneCell (h.2.1 _ _ hx')

theorem append_room {P : Program} {w : World} {t t2 e e2 ty sz n m c c2 : Nat} {A A2 : Option Addr} {news : List Value} (ht : elOf P t = some e) (ht2 : elOf P t2 = some e2) (hs : szOf P e = some sz) (hl : news.length = m * sz)
    (hsrc : (∃ b o, A2 = some ⟨b, o, none⟩ ∧ ∀ (j : Nat) (y : Value), news[j]? = some y → w.cell? ⟨b, o + j, none⟩ = some y) ∨ m = 0) (hroom : n + m ≤ c) (b o : Nat) (hA : A = some ⟨b, o, none⟩ ∨ news = []) {w' : World} (hst : (storeCells ⟨b, o + n * sz, none⟩ news).run P w = .ok () w') :
    (Builtin.append_ #[t, t2] ty #[.slice A n c, .slice A2 m c2]).run P w = .ok (.slice A (n + m) c) w' := by
  have hf := first_run (P := P) (c := c2) hl hsrc
  rcases hA with rfl | rfl
  · simp [Builtin.append_, run_underlying (elOf_und ht), run_underlying (elOf_und ht2), szOf_run hs, Builtin.lenOf, hroom, hf, Addr.add_lit, hst]
  · simp [storeCells] at hst
    subst hst
    cases A <;> simp [Builtin.append_, run_underlying (elOf_und ht), run_underlying (elOf_und ht2), szOf_run hs, Builtin.lenOf, hroom, hf, storeCells]

theorem append_grows {P : Program} {w : World} {t t2 e e2 ty sz by' n m c c2 : Nat} {A A2 : Option Addr} {news olds : List Value} {zs : List V} (ht : elOf P t = some e) (ht2 : elOf P t2 = some e2) (hs : szOf P e = some sz) (hb : bytOf P e = some by') (hz : zcells P e = some zs) (hzl : zs.length = sz)
    (hl : news.length = m * sz) (hsrc : (∃ b o, A2 = some ⟨b, o, none⟩ ∧ ∀ (j : Nat) (y : Value), news[j]? = some y → w.cell? ⟨b, o + j, none⟩ = some y) ∨ m = 0) (hlo : olds.length = n * sz)
    (hold : (∃ b o, A = some ⟨b, o, none⟩ ∧ ∀ (j : Nat) (y : Value), olds[j]? = some y → w.cell? ⟨b, o + j, none⟩ = some y) ∨ n = 0) (hgrow : c < n + m) (hbig : (n + m) * by' ≤ 140737488355328) (hmx : n + m ≤ maxLen) :
    ∃ rest : List Value, (Builtin.append_ #[t, t2] ty #[.slice A n c, .slice A2 m c2]).run P w = .ok (.slice (some ⟨w.heap.size, 0, none⟩) (n + m) (grownCap w (n + m) c e)) (w.drew.alloc (.cells (olds ++ news ++ rest).toArray e)) ∧ (olds ++ news ++ rest).length = grownCap w (n + m) c e * sz := by
  obtain ⟨i, z, hi, hz1, vs, hv, rfl, h1⟩ := zcells_info hz
  have hby : i.bytes = by' := by simpa [bytOf, hi] using hb
  have hsi : i.size = sz := by simpa [szOf, hi] using hs
  have hn : ¬ (n + m ≤ c) := by omega
  have h63 : ¬ (9223372036854775807 < ((n : Int) + (m : Int))) := by unfold maxLen at hmx; omega
  have hfit := growslice_fits (need := n + m) (old := c) (bytes := i.bytes) hgrow (by rw [hby]; exact hbig)
  have h48 : ¬ (281474976710656 < Builtin.nextslicecap (n + m) c * i.bytes) := by omega
  have hf := first_run (P := P) (w := w.drew) (c := c2) hl (by simpa using hsrc)
  have hfo := first_run (P := P) (w := w.drew) (c := c) hlo (by simpa using hold)
  have hge := grownCap_ge w (n + m) c e
  refine ⟨(Builtin.zeroCells z.cells (grownCap w (n + m) c e - (n + m))).toList, ?_, ?_⟩
  · rw [hsi.symm] at hf hfo
    simp [Builtin.append_, run_underlying (elOf_und ht), run_underlying (elOf_und ht2), sizeOf, typeInfo, zeroValue, hi, hz1, Builtin.lenOf, hn, h63, h48, Question.forced, hf, hfo, newRow, grownCap]
    congr 2
    apply Array.ext'
    simp
  · simp only [List.length_append, hlo, hl, Array.length_toList, size_zeroCells, hv, List.size_toArray]
    rw [List.length_map] at hzl
    rw [hzl, ← Nat.add_mul, ← Nat.add_mul]
    congr 1
    omega

section
variable {P : Program} {B : Gd} {σ : Nat → V} {M : Hp} {id : Nat} {K : V → Hp → Prop} {dst : Option Nat} {ty : Nat} {pos : String} {after : Array Edge} {guard : Option (Nat × Bool)}

/-- What is appended to: nothing yet, or an object of the walk's own, all of it. -/
theorem ObAt.take {F : Fz} {ν : Nu} {w : World} {o : Ob} {k : Blk} (h : ObAt F ν w o k) (n : Nat) : ObAt F ν w ⟨o.els.take n, o.sz⟩ k := by
  have at_ : ∀ (i : Nat) (el : List V), (o.els.take n)[i]? = some el → o.els[i]? = some el := fun i el hi => by
    rw [List.getElem?_take] at hi
    split at hi
    · exact hi
    · cases hi
  rcases h with ⟨h1, cur, ty, fr, g1, g2, g3, g4, g5, g6, g7⟩ | ⟨h1, h2, h3, h4⟩
  · refine .inl ⟨h1, cur, ty, fr, g1, g2, g3, g4, fun i el hi => g5 i el (at_ i el hi), ?_, fun i el j u hi hj => g7 i el j u (at_ i el hi) hj⟩
    exact Nat.le_trans (Nat.mul_le_mul_right _ (by simp only [List.length_take]; omega)) g6
  · exact .inr ⟨h1, h2, h3, by simp [h4]⟩
def vbase (M : Hp) (sz : Nat) : V → Option (List (List V) × Option Nat)
  | .val (.slice none 0 0) => some ([], none)
  | .own i 0 n => (M i).bind fun o => if o.sz = sz ∧ n ≤ o.els.length then some (o.els.take n, some i) else none
  | _ => none

def dropM (M : Hp) : Option Nat → Hp
  | none => M
  | some i => setM M i none

theorem w_append {t t2 e e2 sz by' : Nat} {x y : Operand} {zs : List V} {els1 els2 : List (List V)} {oi : Option Nat} (ht : elOf P t = some e) (ht2 : elOf P t2 = some e2) (hs : szOf P e = some sz) (hb : bytOf P e = some by') (hz : zcells P e = some zs) (hzl : zs.length = sz)
    (hx : vbase M sz (ev σ x) = some (els1, oi)) (hy : vels M sz (ev σ y) = some els2) (hbig : (els1.length + els2.length) * by' ≤ 140737488355328) (hmx : els1.length + els2.length ≤ maxLen) (hsz0 : sz ≠ 0)
    (hK : K (.own id 0 (els1.length + els2.length)) (setM (dropM M oi) id (some ⟨els1 ++ els2, sz⟩))) :
    OpW P B ⟨dst, .call ⟨.builtin .append, #[x, y], #[t, t2]⟩, ty, pos, after, guard⟩ σ M id K := by
  refine opw_on hK fun ac w F ν hok hid hm => ?_
  obtain ⟨hl2, A2, c2, news, hv2, hc2, _, hnl, hnr, hsrc⟩ := vels_src hok (ev_rel hm y) hy
  have hsrc' : (∃ b o, A2 = some ⟨b, o, none⟩ ∧ ∀ (j : Nat) (y : Value), news[j]? = some y → w.cell? ⟨b, o + j, none⟩ = some y) ∨ els2.length = 0 := hsrc.imp (fun h => h) els_of_nil
  have h1 := ev_rel hm x
  -- the growing way, wherever the elements lie
  have grow : ∀ (A : Option Addr) (c : Nat) (olds : List Value), ac.eval x = .slice A els1.length c → (∀ el ∈ els1, el.length = sz) → olds.length = els1.length * sz → RL F ν olds els1.flatten →
      ((∃ b o, A = some ⟨b, o, none⟩ ∧ ∀ (j : Nat) (y : Value), olds[j]? = some y → w.cell? ⟨b, o + j, none⟩ = some y) ∨ els1.length = 0) → c < els1.length + els2.length →
      ∃ r v w' F' ν', (execOp ac.eval ⟨dst, .call ⟨.builtin .append, #[x, y], #[t, t2]⟩, ty, pos, after, guard⟩).run P w = .ok r w' ∧ (r = .value v ∨ (r = .skip ∧ v = undef)) ∧ Ok B F' ν' (setM (dropM M oi) id (some ⟨els1 ++ els2, sz⟩)) w' ∧ Fz.le F F' ∧ Nu.le ν ν' ∧ (∀ x, x ≠ id → ν' x = ν x) ∧ Rel F' ν' v (.own id 0 (els1.length + els2.length)) := by
    intro A c olds hv hl1 hol hor hold hgrow
    obtain ⟨rest, hrun, hrl⟩ := append_grows (P := P) (w := w) (ty := ty) (c2 := c2) ht ht2 hs hb hz hzl hnl hsrc' hol hold hgrow hbig hmx
    have hD : Ok B F ν (dropM M oi) w := by
      cases oi with
      | none => exact hok
      | some i => exact hok.drop i
    have ok1 := hD.drewOn.allocs (.cells (olds ++ news ++ rest).toArray e)
    have hnn : RL F ν (olds ++ news) (els1 ++ els2).flatten := by
      rw [List.flatten_append]
      exact hor.append hnr
    have hel := hnn.elements (els := els1 ++ els2) (sz := sz) (by
      intro el hel
      rcases List.mem_append.1 hel with h | h
      · exact hl1 el h
      · exact hl2 el h) (cur := (olds ++ news ++ rest).toArray) (rest := rest) (by simp)
    have h2 := ok1.made (id := id) (o := ⟨els1 ++ els2, sz⟩) hid (heap_new w.drew _) (hD.noF (Nat.le_refl _)) (hD.notOb (Nat.le_refl _)) (.inr hD.size) (fun x _ => by simp) (fun i el hi => by
      have hm := List.mem_of_getElem? hi
      rcases List.mem_append.1 hm with h | h
      · exact hl1 el h
      · exact hl2 el h) hel.1 hel.2
    refine ⟨.value _, .slice (some ⟨w.heap.size, 0, none⟩) (els1.length + els2.length) (grownCap w (els1.length + els2.length) c e), _, F, _, ?_, .inl rfl, h2.1, Fz.le_refl _, h2.2, setN_other, ?_⟩
    · simp only [execOp, resolve, invoke, builtin, hv, hv2, List.map_toArray, List.map_cons, List.map_nil]
      simp [hrun]
    · refine .own id 0 _ _ _ ⟨w.heap.size, sz, (olds ++ news ++ rest).toArray.size, false, e⟩ (by simp [setN]) (grownCap_ge w _ _ _) (grownCap_le_maxLen w _ _ _ hmx) (fun _ => ⟨by simp, ?_⟩) (.inr ⟨_, rfl, rfl⟩)
      show (0 + _) * sz ≤ (olds ++ news ++ rest).toArray.size
      rw [Nat.zero_add, List.size_toArray, hrl]
      exact Nat.le_refl _
  generalize hv : ac.eval x = v at h1
  unfold vbase at hx
  split at hx
  · rename_i he
    rw [he] at h1
    simp only [Option.some.injEq, Prod.mk.injEq] at hx
    obtain ⟨rfl, rfl⟩ := hx
    have e1 := rel_val h1
    subst e1
    by_cases h0 : els2.length = 0
    · have hn0 : news = [] := List.eq_nil_of_length_eq_zero (by rw [hnl, h0, Nat.zero_mul])
      have happ := append_room (P := P) (w := w) (ty := ty) (n := 0) (c := 0) (c2 := c2) (A := none) ht ht2 hs hnl hsrc' (by omega) 0 0 (.inr hn0) (w' := w) (by subst hn0; simp [storeCells])
      have he2 : els2 = [] := List.eq_nil_of_length_eq_zero h0
      obtain ⟨ok2, hle⟩ := hok.new (id := id) (o := ⟨[] ++ els2, sz⟩) (k := ⟨0, sz, 0, true, 0⟩) hid (fun h => by cases h) (fun h => by cases h) (fun h => by cases h) (.inr ⟨rfl, rfl, rfl, by simp [he2]⟩)
      refine ⟨.value (.slice none (0 + els2.length) 0), _, w, F, _, ?_, .inl rfl, ok2, Fz.le_refl _, hle, setN_other, ?_⟩
      · simp only [execOp, resolve, invoke, builtin]
        simp [hv, hv2, happ]
      · refine .own id 0 _ _ _ ⟨0, sz, 0, true, 0⟩ (by simp [setN]) (by simp; omega) (by omega) (fun h => absurd rfl h) (.inl rfl)
    · exact grow none 0 [] hv (by simp) (by simp) ⟨rfl, fun j x hx => by simp at hx, fun j y x hy => by simp at hy⟩ (.inr rfl) (by simp; omega)
  · rename_i i n he
    rw [he] at h1
    cases hM : M i with
    | none => simp [hM] at hx
    | some o =>
      simp only [hM, Option.bind_some] at hx
      split at hx
      · rename_i hc
        obtain ⟨rfl, hnle⟩ := hc
        simp only [Option.some.injEq, Prod.mk.injEq] at hx
        obtain ⟨htk, rfl⟩ := hx
        generalize htk' : els1 = tk at *
        have hlen : n = tk.length := by rw [← htk, List.length_take]; omega
        rw [hlen] at h1
        cases h1 with
        | own _ _ _ c A k hk hcn hcm hA hB =>
          obtain ⟨hat0, hFk⟩ := hok.at hM hk
          replace hat0 := hat0.take n
          rw [htk] at hat0
          have g5 := hat0.lens
          dsimp only at g5
          have hl1 : ∀ el ∈ tk, el.length = o.sz := fun el hel => by
            obtain ⟨q, hq⟩ := List.mem_iff_getElem?.1 hel
            exact g5 _ _ hq
          by_cases hroom : tk.length + els2.length ≤ c
          · rcases hat0 with ⟨hvt, cur, ty', fr, g1, ⟨g2, gty⟩, g3, g4, g5, g6, g7⟩ | ⟨hvt, hcap, hksz, he0⟩
            rotate_left
            · -- no block yet, and nothing is appended
              dsimp only at hksz he0
              have hc0 : c = 0 := by
                by_cases h : c = 0
                · exact h
                · have h2 := (hA h).2
                  rw [hcap, hksz, Nat.zero_add] at h2
                  have : 0 < c * o.sz := Nat.mul_pos (by omega) (by omega)
                  omega
              subst hc0
              have h0 : els2.length = 0 := by omega
              have hn0 : news = [] := List.eq_nil_of_length_eq_zero (by rw [hnl, h0, Nat.zero_mul])
              have happ := append_room (P := P) (ty := ty) (c2 := c2) (A := A) ht ht2 hs hnl hsrc' hroom 0 0 (.inr hn0) (w' := w) (by subst hn0; simp [storeCells])
              have he2 : els2 = [] := List.eq_nil_of_length_eq_zero h0
              obtain ⟨ok2, hle⟩ := (hok.drop i).new (id := id) (o := ⟨tk ++ els2, o.sz⟩) (k := ⟨0, o.sz, 0, true, 0⟩) hid (fun h => by cases h) (fun h => by cases h) (fun h => by cases h) (.inr ⟨rfl, rfl, rfl, by simp [he0, he2]⟩)
              refine ⟨.value (.slice A (tk.length + els2.length) 0), _, w, F, _, ?_, .inl rfl, ok2, Fz.le_refl _, hle, setN_other, ?_⟩
              · simp only [execOp, resolve, invoke, builtin]
                simp [hv, hv2, happ]
              · exact .own id 0 _ _ _ ⟨0, o.sz, 0, true, 0⟩ (by simp [setN]) hroom (by omega) (fun h => absurd rfl h) (hB.imp (fun h => h) fun ⟨_, _, h⟩ => by rw [hvt] at h; cases h)
            -- there is room
            dsimp only at g4 g5 g6 g7
            have hFk := hFk hvt
            have hA' : A = some ⟨k.b, 0, none⟩ ∨ news = [] := by
              by_cases h0 : c = 0
              · have : els2.length = 0 := by omega
                rw [this, Nat.zero_mul] at hnl
                exact .inr (List.eq_nil_of_length_eq_zero hnl)
              · obtain ⟨h, _⟩ := hA h0
                exact .inl (by simpa using h)
            have hfit : tk.length * o.sz + news.length ≤ cur.size := by
              rw [g2, hnl, ← Nat.add_mul]
              by_cases h0 : c = 0
              · have : tk.length + els2.length = 0 := by omega
                rw [this]
                simp
              · have := (hA h0).2
                rw [Nat.zero_add, g4] at this
                exact Nat.le_trans (Nat.mul_le_mul_right _ hroom) this
            obtain ⟨w', hrun, hb', hk', hsz', ho, htp, hou⟩ := run_cells_at (P := P) g1 hfit (by rw [g2]; exact g3) hnr.one
            have happ := append_room (P := P) (ty := ty) (c2 := c2) ht ht2 hs hnl hsrc' hroom k.b 0 hA' (w' := w') (by rw [Nat.zero_add]; exact hrun)
            have hlt : (cur.toList.take (tk.length * o.sz)).length = tk.length * o.sz := by
              rw [List.length_take]
              have := Array.length_toList (xs := cur)
              omega
            have hat' : ObAt F ν w' ⟨tk ++ els2, o.sz⟩ k := by
              refine .inl ⟨hvt, _, ty', fr, hb', ⟨?_, gty⟩, g3, g4, fun i el hi => ?_, ?_, fun i el j u hi hj => ?_⟩
              · simp only [List.size_toArray, List.length_append, List.length_drop, Array.length_toList, hlt]
                omega
              · rcases List.mem_append.1 (List.mem_of_getElem? hi) with h | h
                · exact hl1 el h
                · exact hl2 el h
              · dsimp only
                rw [List.length_append, Nat.add_mul, ← hnl, ← g2]
                exact hfit
              · dsimp only at hi ⊢
                rw [List.getElem?_toArray, List.append_assoc]
                by_cases hin : i < tk.length
                · rw [List.getElem?_append_left hin] at hi
                  have hlen := g5 _ _ hi
                  have hjlt := (List.getElem?_eq_some_iff.1 hj).1
                  have hm1 : (i + 1) * o.sz ≤ tk.length * o.sz := Nat.mul_le_mul_right _ hin
                  rw [Nat.add_mul] at hm1
                  rw [List.getElem?_append_left (by omega), List.getElem?_take, if_pos (by omega), Array.getElem?_toList]
                  exact g7 _ _ _ _ hi hj
                · rw [List.getElem?_append_right (by omega)] at hi
                  have hu := flat_at els2 o.sz (fun i el h => hl2 el (List.mem_of_getElem? h)) _ j el u hi hj
                  obtain ⟨y, hy⟩ := get_of_length hnr.1 hu
                  have hylt := (List.getElem?_eq_some_iff.1 hy).1
                  have hi2 : i * o.sz + j - tk.length * o.sz = (i - tk.length) * o.sz + j := by
                    rw [Nat.sub_mul]
                    have : tk.length * o.sz ≤ i * o.sz := Nat.mul_le_mul_right _ (by omega)
                    omega
                  have hge : tk.length * o.sz ≤ i * o.sz := Nat.mul_le_mul_right _ (by omega)
                  rw [List.getElem?_append_right (by omega), hlt, hi2, List.getElem?_append_left hylt]
                  exact ⟨hnr.2.1 _ _ hu, y, hy, hnr.2.2 _ _ _ hy hu⟩
            have ok1 := (hok.world ho htp hou (by omega) hM hk hvt (fun b _ hne => hk' b hne) hat').drop i
            have eM : setM (setM M i (some ⟨tk ++ els2, o.sz⟩)) i none = setM M i none := by
              funext x
              simp only [setM_at]
              split <;> rfl
            rw [eM] at ok1
            have hob : ∀ id' o' k', setM M i none id' = some o' → ν id' = some k' → k'.vt = false → k'.b ≠ k.b := fun id' o' k' a b v1 => by
              by_cases e : id' = i
              · subst e
                rw [setM_same] at a
                cases a
              · rw [setM_ne e] at a
                exact hok.inj _ _ _ _ _ _ a hM e b hk v1 hvt
            obtain ⟨ok2, hle⟩ := ok1.new hid (fun _ => hFk) (fun _ => hob) (fun _ => hok.live _ _ _ hM hk hvt) hat'
            refine ⟨.value (.slice A (tk.length + els2.length) c), _, w', F, _, ?_, .inl rfl, ok2, Fz.le_refl _, hle, setN_other, ?_⟩
            · simp only [execOp, resolve, invoke, builtin]
              simp [hv, hv2, happ]
            · refine .own id 0 _ _ _ k (by simp [setN]) hroom hcm hA hB
          · obtain ⟨_, A1, c1, olds, hv1, _, _, hol, hor, hosrc⟩ := vels_src (els := tk) (sz := o.sz) hok (Rel.own (F := F) i 0 tk.length c A k hk hcn hcm hA hB) (by simp [vels, hM, ← htk, List.length_take, hnle])
            cases hv1
            exact grow A c olds hv hl1 hol hor (hosrc.imp (fun h => h) els_of_nil) (by omega)
      · cases hx
  · cases hx
end
end Go.Ka
namespace Go.Ka
open Go.RowKit
variable [Tab]

/-- Elements, each with its index, one behind the other. -/
def vparts (sz : Nat) (k : Nat) : List (Nat × V) → Option (List (List V))
  | [] => some []
  | (i, u) :: r => match vcells u with
    | some us => if i = k ∧ us.length = sz then (vparts sz (k + 1) r).map (us :: ·) else none
    | none => none

theorem vparts_len {sz : Nat} : ∀ (ps : List (Nat × V)) (k : Nat) (els : List (List V)), vparts sz k ps = some els → els.length = ps.length ∧ ∀ el ∈ els, el.length = sz := by
  intro ps
  induction ps with
  | nil => intro k els h; simp only [vparts, Option.some.injEq] at h; subst h; simp
  | cons p r ih =>
    intro k els h
    obtain ⟨i, u⟩ := p
    unfold vparts at h
    split at h
    · rename_i us hu
      split at h
      · rename_i hc
        cases hr : vparts sz (k + 1) r with
        | none => simp [hr] at h
        | some es =>
          simp [hr] at h
          subst h
          obtain ⟨h1, h2⟩ := ih _ _ hr
          exact ⟨by simp [h1], fun el hel => by
            rcases List.mem_cons.1 hel with rfl | h
            · exact hc.2
            · exact h2 el h⟩
      · cases h
    · cases h

/-- The zero value laid so many times, the parts over it: the parts. -/
theorem vparts_fill {sz : Nat} : ∀ (ps : List (Nat × V)) (k : Nat) (els : List (List V)) (done zs : List V), vparts sz k ps = some els → done.length = k * sz → zs.length = ps.length * sz →
    vfill (fun i => some (i * sz, sz)) ps (done ++ zs) = some (done ++ els.flatten) := by
  intro ps
  induction ps with
  | nil =>
    intro k els done zs h hd hz
    simp only [vparts, Option.some.injEq] at h
    subst h
    have : zs = [] := List.eq_nil_of_length_eq_zero (by simpa using hz)
    subst this
    simp [vfill]
  | cons p r ih =>
    intro k els done zs h hd hz
    obtain ⟨i, u⟩ := p
    unfold vparts at h
    split at h
    · rename_i us hu
      split at h
      · rename_i hc
        obtain ⟨rfl, hus⟩ := hc
        cases hr : vparts sz (i + 1) r with
        | none => simp [hr] at h
        | some es =>
          simp [hr] at h
          subst h
          simp only [List.length_cons, Nat.add_mul, Nat.one_mul] at hz
          simp only [vfill, hu]
          rw [if_pos ⟨hus, by rw [List.length_append, hd]; omega⟩]
          have e1 : splice (done ++ zs) (i * sz) us = (done ++ us) ++ zs.drop sz := by
            unfold splice
            rw [List.take_append_of_le_length (by omega), List.take_of_length_le (by omega), hus, List.drop_append, List.drop_eq_nil_of_le (by omega), hd]
            simp
          rw [e1, ih (i + 1) es (done ++ us) (zs.drop sz) hr (by rw [List.length_append, hd, hus, Nat.add_mul]; omega) (by rw [List.length_drop]; omega)]
          simp
      · cases h
    · cases h

section
variable {P : Program} {B : Gd} {σ : Nat → V} {M : Hp} {id : Nat} {K : V → Hp → Prop} {dst : Option Nat} {ty : Nat} {pos : String} {after : Array Edge} {guard : Option (Nat × Bool)}

theorem rep_zero {zs : List Value} {n sz : Nat} (hl : zs.length = sz) (h0 : n * sz ≠ 0) : ∃ ws : List Value, ((Array.range (n * sz)).map fun i => zs.toArray[i % zs.toArray.size]!) = ws.toArray ∧ ws.length = n * sz ∧ ∀ v ∈ ws, v ∈ zs := by
  refine ⟨(List.range (n * sz)).map fun i => zs.toArray[i % zs.toArray.size]!, by simp [← Array.toList_inj], by simp, fun v hv => ?_⟩
  obtain ⟨i, _, rfl⟩ := List.mem_map.1 hv
  have hpos : 0 < sz := by
    rcases Nat.eq_zero_or_pos sz with h | h
    · rw [h] at h0; simp at h0
    · exact h
  have hlt : i % zs.toArray.size < zs.toArray.size := Nat.mod_lt _ (by simp [hl]; exact hpos)
  rw [getElem!_pos zs.toArray _ hlt]
  simp

/-- A slice literal that nobody writes. -/
theorem w_buildSlice {t e sz n : Nat} {parts : Array (Nat × Operand)} {zs : List V} {els : List (List V)} (ht : elOf P t = some e) (hs : szOf P e = some sz) (hz : zcells P e = some zs) (hzl : zs.length = sz) (hn : parts.toList.length = n)
    (hv : vparts sz 0 (evs σ parts.toList) = some els) (hbig : n * sz ≤ 16777216) (hn2 : n ≤ 16777216) (hK : K (.arr els) M) : OpW P B ⟨dst, .buildSlice t n parts, ty, pos, after, guard⟩ σ M id K := by
  refine opw_on hK fun ac w F ν hok hid hm => ?_
  obtain ⟨hel, hels⟩ := vparts_len _ _ _ hv
  have heln : els.length = n := by rw [hel, ← hn]; simp [evs]
  obtain ⟨i, z, hi, hz1, vs, hvz, rfl, h1⟩ := zcells_info hz
  rw [List.length_map] at hzl
  obtain ⟨hl, hq⟩ := parts_rel hm parts.toList
  -- the cells
  have cells : ∃ ws : List Value, RL F ν ws els.flatten ∧ (Instr.buildSlice t n (parts.map fun p => (p.1, ac.eval p.2))).run P w = .ok (.slice (some ⟨w.heap.size, 0, none⟩) n n) (w.alloc (.cells ws.toArray e)) := by
    by_cases h0 : n * sz = 0
    · obtain ⟨ws, hw, hr⟩ := vfill_run (pl := fun i => some (i * sz, sz)) _ _ [] [] _ hl hq ⟨rfl, fun j x hx => by simp at hx, fun j y x hy => by simp at hy⟩ (by
        have := vparts_fill (evs σ parts.toList) 0 els [] [] hv (by simp) (by rw [← hel, heln]; simpa using h0.symm)
        simpa using this)
      refine ⟨ws, by simpa using hr, ?_⟩
      have hw' : Instr.fill (fun i => some (i * sz, sz)) #[] (List.map (fun p => (p.fst, ac.eval p.snd)) parts.toList) = some ws.toArray := by simpa using hw
      simp only [Instr.buildSlice, Sem.run_bind, run_underlying (elOf_und ht), Result.andThen, szOf_run hs, h0]
      simp [Array.range_zero', hw', newRow]
    · obtain ⟨zw, hzw, hzwl, hzm⟩ := rep_zero (zs := vs) (n := n) hzl h0
      obtain ⟨ws, hw, hr⟩ := vfill_run (pl := fun i => some (i * sz, sz)) _ _ (zw.map .val) zw _ hl hq (RL.vals (F := F) (ν := ν) fun v hv => h1 v (hzm v hv)) (by
        have := vparts_fill (evs σ parts.toList) 0 els [] (zw.map .val) hv (by simp) (by rw [List.length_map, hzwl, ← hel, heln])
        simpa using this)
      refine ⟨ws, by simpa using hr, ?_⟩
      have hw' : Instr.fill (fun i => some (i * sz, sz)) zw.toArray (List.map (fun p => (p.fst, ac.eval p.snd)) parts.toList) = some ws.toArray := by simpa using hw
      have hbig' : ¬ (n * sz > 2 ^ 24) := by omega
      simp only [Instr.buildSlice, Sem.run_bind, run_underlying (elOf_und ht), Result.andThen, szOf_run hs, h0, hbig', if_false, zeroValue, typeInfo]
      simp only [run_program, hi, Sem.run_pure, hz1, hvz, hzw]
      simp [hw', newRow]
  obtain ⟨ws, hr, hrun⟩ := cells
  have ok1 := hok.allocs (.cells ws.toArray e)
  have ok2 := ok1.imm (b := w.heap.size) (f := fun o => ws[o]?) (hok.noF (Nat.le_refl _)) (hok.notOb (Nat.le_refl _)) (.inr hok.size) (fun o v ho => by rw [cell_at (heap_new w _)]; simpa using ho)
  have hle := addF_le (f := fun o => ws[o]?) (hok.noF (Nat.le_refl _) : ∀ x, F w.heap.size x = none)
  refine ⟨.value (.slice (some ⟨w.heap.size, 0, none⟩) n n), _, _, _, ν, ?_, .inl rfl, ok2, hle, Nu.le_refl _, fun _ _ => rfl, ?_⟩
  · simp only [execOp]
    simp [hrun]
  · have hfl := flat_len els sz hels
    have hat : ∀ (i : Nat) (el : List V) (j : Nat) (u : V), els[i]? = some el → el[j]? = some u → ∃ y, ws[i * sz + j]? = some y ∧ u.cell = true ∧ Rel F ν y u := fun i el j u hi hj => by
      have hu := flat_at els sz (fun i el h => hels el (List.mem_of_getElem? h)) i j el u hi hj
      obtain ⟨y, hy⟩ := get_of_length hr.1 hu
      exact ⟨y, hy, hr.2.1 _ _ hu, hr.2.2 _ _ _ hy hu⟩
    refine .arr _ n n sz els (fun i j => (ws[i * sz + j]?).getD undef) heln (Nat.le_refl _) ?_ (fun i el hi => hels el (List.mem_of_getElem? hi)) (fun i el j u hi hj => (hat i el j u hi hj).choose_spec.2.1) (fun _ => ⟨w.heap.size, 0, rfl, fun i el j u hi hj => ?_⟩) (fun i el j u hi hj => ?_)
    · unfold maxLen; omega
    · obtain ⟨y, hy, _⟩ := hat i el j u hi hj
      simp [addF, hy]
    · obtain ⟨y, hy, _, h⟩ := hat i el j u hi hj
      rw [hy]
      exact h.mono hle (Nu.le_refl _)

/-- The bytes of elements. -/
def vbytes : List (List V) → Option (List UInt8)
  | [] => some []
  | [.val (.int .u8 n)] :: r => (vbytes r).map (UInt8.ofNat n.toNat :: ·)
  | _ => none

theorem vbytes_map (l : List UInt8) : vbytes (l.map byteEl) = some l := by
  induction l with
  | nil => rfl
  | cons b r ih => simp [vbytes, byteEl, ih]

theorem vbytes_nums {F : Fz} {ν : Nu} : ∀ (els : List (List V)) (l : List UInt8) (news : List Value), vbytes els = some l → RL F ν news els.flatten → ∃ ns : List Int, news = ns.map (Value.int .u8) ∧ ns.length = els.length ∧ l = ns.map fun n => UInt8.ofNat n.toNat := by
  intro els
  induction els with
  | nil =>
    intro l news h hr
    simp only [vbytes, Option.some.injEq] at h
    subst h
    have : news = [] := List.eq_nil_of_length_eq_zero (by simpa using hr.1)
    exact ⟨[], by simp [this], rfl, rfl⟩
  | cons e r ih =>
    intro l news h hr
    unfold vbytes at h
    split at h
    · rename_i he; cases he
    · rename_i n r' he
      injection he with he1 he2
      subst he1; subst he2
      cases hb : vbytes r with
      | none => simp [hb] at h
      | some l' =>
        simp [hb] at h
        subst h
        cases news with
        | nil => have := hr.1; simp at this
        | cons v vs =>
          have hv := hr.2.2 0 v _ rfl rfl
          have e1 := rel_val hv
          subst e1
          obtain ⟨ns, h1, h2, h3⟩ := ih l' vs hb ⟨by have := hr.1; simpa using this, fun j x hj => hr.2.1 (j + 1) x (by simpa using hj), fun j y x hy hx => hr.2.2 (j + 1) y x (by simpa using hy) (by simpa using hx)⟩
          exact ⟨n :: ns, by simp [h1], by simp [h2], by simp [h3]⟩
    · cases h

theorem w_toStr {src d e : Nat} {x : Operand} {els : List (List V)} {l : List UInt8} (hs : elOf P src = some e) (he : wordOf P e = some .u8) (hd : isStr P d = true) (hx : vels M 1 (ev σ x) = some els) (hl : vbytes els = some l) (hK : K (.val (str l)) M) :
    OpW P B ⟨dst, .convert src d x, ty, pos, after, guard⟩ σ M id K := by
  refine opw_of hK fun ac w F ν hok hm => ?_
  obtain ⟨_, A, c, news, hv, _, _, hnl, hnr, hsrc⟩ := vels_src hok (ev_rel hm x) hx
  obtain ⟨ns, hns, hnsl, rfl⟩ := vbytes_nums _ _ _ hl hnr
  refine ⟨str (ns.map fun n => UInt8.ofNat n.toNat), ?_, .val _ rfl⟩
  simp only [execOp, hv]
  have main : (convert src d (.slice A els.length c)).run P w = .ok (str (ns.map fun n => UInt8.ofNat n.toNat)) w := by
    rcases hsrc with ⟨b, o, rfl, hc⟩ | h0
    · have := run_convert_bytes_arg (P := P) w src e (elOf_und hs) (wordOf_und he) b o els.length c ns hnsl (fun i hi => by
        have hlt : i < ns.length := by omega
        have hq : news[i]? = some (.int .u8 ns[i]) := by rw [hns, List.getElem?_map, List.getElem?_eq_getElem hlt]; rfl
        rw [hc i _ hq, List.getD_eq_getElem?_getD, List.getElem?_eq_getElem hlt]
        rfl) d (isStr_und hd)
      rw [this]
      rfl
    · have hns0 : ns = [] := List.eq_nil_of_length_eq_zero (by rw [hnsl, h0]; rfl)
      subst hns0
      subst h0
      cases A with
      | none => exact run_convert_bytes_nil (P := P) w src e (elOf_und hs) (wordOf_und he) 0 c d (isStr_und hd)
      | some a => 
        rw [run_convert_bytes_string w src d e (some a) _ c (elOf_und hs) (wordOf_und he) (isStr_und hd)]
        simp [Conv.bytesToString, loadCells, loadCellsFrom, str]
        rfl
  simp [main]
end
end Go.Ka
namespace Go.Ka
open Go.RowKit
variable [Tab]

structure St where
  σ : Nat → V
  M : Hp
  nx : Nat

def upd (σ : Nat → V) : Option Nat → V → Nat → V
  | none, _ => σ
  | some t, v => fun x => bif Nat.beq x t then v else σ x
theorem upd_eq (σ : Nat → V) (d : Option Nat) (v : V) (t : Nat) : upd σ d v t = if some t = d then v else σ t := by
  cases d with
  | none => simp [upd]
  | some d =>
    simp only [upd, Option.some.injEq]
    by_cases h : t = d
    · subst h; simp
    · have : Nat.beq t d = false := by
        cases hb : Nat.beq t d with
        | false => rfl
        | true => exact absurd (Nat.eq_of_beq_eq_true hb) h
      simp [this, h]

/-- What is fixed while a body runs: where it began, the size of the frame, what was frozen, where the objects lay that it was handed. -/
structure Cx where
  B : Gd
  nt : Nat
  F : Fz
  ν : Nu
  n : Nat

structure Sim (X : Cx) (s : St) (a : Act) (w : World) (F : Fz) (ν : Nu) : Prop where
  ok : Ok X.B F ν s.M w
  nxt : ∀ id, s.nx ≤ id → ν id = none
  maps : Maps a F ν s.σ
  size : a.tmps.size = X.nt
  df : a.defers = []
  leF : Fz.le X.F F
  old : ∀ id, id < X.n → ν id = X.ν id
  le : X.n ≤ s.nx

def Awp (P : Program) (X : Cx) (c : Code) (s : St) (Q : Exit → St → Prop) : Prop :=
  ∀ a w F ν, Sim X s a w F ν → c.wp P (fun e a' w' => ∃ s' F' ν', Sim X s' a' w' F' ν' ∧ Q e s') a w

/-- A function that has a body, and is no stand-in of the run-time's. -/
def plain (P : Program) (f : Nat) : Bool := match P.funcs[f]? with
  | some fn => fn.body.isSome && !(fn.name == "runtime.NumGoroutine")
  | none => false

theorem callFunc_plain {P : Program} {f : Nat} {w : World} {args : Array Value} (h : plain P f = true) : (callFunc f args).run P w = .ok (.enter f args) w := by
  unfold plain at h
  cases hf : P.funcs[f]? with
  | none => simp [hf] at h
  | some fn =>
    simp only [hf, Bool.and_eq_true, Bool.not_eq_true', beq_eq_false_iff_ne] at h
    obtain ⟨b, hb⟩ := Option.isSome_iff_exists.1 h.1
    simp [callFunc, hf, h.2, hb]

def dstOk (nt : Nat) : Option Nat → Prop
  | some d => d < nt
  | none => True
def dstB (nt : Nat) : Option Nat → Bool
  | some d => Nat.blt d nt
  | none => true
theorem dstB_ok {nt : Nat} {d : Option Nat} (h : dstB nt d = true) : dstOk nt d := by
  cases d with
  | none => trivial
  | some d => simpa [dstB, dstOk, Nat.blt_eq] using h

theorem wp_of_false {P : Program} {o : Oper} {a : Act} {w : World} {K : Act → World → Prop} {Q : Exit → Act → World → Prop} (h : o.wp P a w K (fun _ _ _ => False)) : o.wp P a w K Q := by
  unfold Oper.wp at *
  generalize (execOp a.eval o).run P w = r at *
  cases r with
  | ok n w' =>
    cases n <;> simp only [Oper.upon] at h ⊢ <;> first
      | exact h
      | exact Calls.mono h (fun e w'' he => by cases e <;> first | exact he | exact he.elim | (obtain ⟨_, _, hf⟩ := he; exact hf.elim))
  | halt x w' => cases x <;> simp only [Oper.upon] at h

theorem maps_put {a : Act} {F : Fz} {ν : Nu} {σ : Nat → V} {d : Option Nat} {v : Value} {u : V} (hm : Maps a F ν σ) (hd : dstOk a.tmps.size d) (hr : Rel F ν v u) : Maps (a.put d v) F ν (upd σ d u) := by
  intro t
  rw [upd_eq]
  cases d with
  | none => simpa [Act.put] using hm t
  | some d =>
    have hd' : d < a.tmps.size := hd
    by_cases e : t = d
    · subst e
      simp only [Act.put, if_true]
      rw [Array.getD_eq_getD_getElem?, Array.getElem?_setIfInBounds]
      simp [hd', hr]
    · have e1 : ¬ (some t = some d) := fun h => e (Option.some.inj h)
      simp only [Act.put, e1, if_false]
      rw [Array.getD_eq_getD_getElem?, Array.getElem?_setIfInBounds_ne (Ne.symm e), ← Array.getD_eq_getD_getElem?]
      exact hm t

theorem put_size (a : Act) (d : Option Nat) (v : Value) : (a.put d v).tmps.size = a.tmps.size := by cases d <;> simp [Act.put]
theorem put_df (a : Act) (d : Option Nat) (v : Value) : (a.put d v).defers = a.defers := by cases d <;> rfl

theorem Maps.mono {a : Act} {F F' : Fz} {ν ν' : Nu} {σ : Nat → V} (h : Maps a F ν σ) (hF : Fz.le F F') (hN : Nu.le ν ν') : Maps a F' ν' σ := fun t => (h t).mono hF hN

/-- One step's end is the next one's beginning. -/
theorem Sim.step {X : Cx} {n : Nat} {σ : Nat → V} {M M' : Hp} {a : Act} {w w' : World} {F F' : Fz} {ν ν' : Nu} (h : Sim X ⟨σ, M, n⟩ a w F ν) {d : Option Nat} {v : Value} {u : V} (hd : dstOk X.nt d) (hok : Ok X.B F' ν' M' w') (hF : Fz.le F F') (hN : Nu.le ν ν')
    (hn : ∀ x, x ≠ n → ν' x = ν x) (hr : Rel F' ν' v u) : Sim X ⟨upd σ d u, M', n + 1⟩ (a.put d v) w' F' ν' := by
  refine ⟨hok, fun id hid => ?_, maps_put (h.maps.mono hF hN) (by rw [h.size]; exact hd) hr, by rw [put_size]; exact h.size, by rw [put_df]; exact h.df, Fz.le_trans h.leF hF, fun id hid => ?_, ?_⟩
  · dsimp only at hid
    rw [hn id (by omega)]
    exact h.nxt id (by dsimp only; omega)
  · have := h.le
    dsimp only at this
    rw [hn id (by omega)]
    exact h.old id hid
  · have := h.le
    dsimp only at this ⊢
    omega

/-! ### Where more objects are known -/
def Sub (M M' : Hp) : Prop := ∀ x o, M x = some o → M' x = some o
theorem Sub.refl (M : Hp) : Sub M M := fun _ _ h => h
theorem Sub.trans {M M' M'' : Hp} (h : Sub M M') (h' : Sub M' M'') : Sub M M'' := fun _ _ x => h' _ _ (h _ _ x)

theorem pcells_mono {M M' : Hp} (hs : Sub M M') {u : V} {cs : List V} (h : pcells M u = some cs) : pcells M' u = some cs := by
  unfold pcells at *
  split at h
  · exact h
  · rename_i i j off
    cases hm : M i with
    | none => simp [hm] at h
    | some o => simp only [hs _ _ hm]; simpa [hm] using h
  · cases h

theorem vels_mono {M M' : Hp} (hs : Sub M M') {sz : Nat} {u : V} {cs : List (List V)} (h : vels M sz u = some cs) : vels M' sz u = some cs := by
  unfold vels at *
  split at h
  · exact h
  · rename_i i a n
    cases hm : M i with
    | none => simp [hm] at h
    | some o => simp only [hs _ _ hm]; simpa [hm] using h
  · exact h
  · cases h

theorem vbase_mono {M M' : Hp} (hs : Sub M M') {sz : Nat} {u : V} {r : List (List V) × Option Nat} (h : vbase M sz u = some r) : vbase M' sz u = some r := by
  unfold vbase at *
  split at h
  · exact h
  · rename_i i n
    cases hm : M i with
    | none => simp [hm] at h
    | some o => simp only [hs _ _ hm]; simpa [hm] using h
  · cases h

theorem vidx_mono {M M' : Hp} (hs : Sub M M') {sz n : Nat} {u u' : V} (h : vidx M sz u n = some u') : vidx M' sz u n = some u' := by
  unfold vidx at *
  split at h
  · exact h
  · rename_i i a m
    split at h
    · rename_i hlt
      rw [if_pos hlt]
      cases hm : M i with
      | none => simp [hm] at h
      | some o => simp only [hs _ _ hm]; simpa [hm] using h
    · cases h
  · cases h

theorem vcut_mono {M M' : Hp} (hs : Sub M M') {sz l r : Nat} {u u' : V} (h : vcut M sz u l r = some u') : vcut M' sz u l r = some u' := by
  unfold vcut at *
  split at h
  · exact h
  · rename_i i a m
    split at h
    · rename_i hlt
      rw [if_pos hlt]
      cases hm : M i with
      | none => simp [hm] at h
      | some o => simp only [hs _ _ hm]; simpa [hm] using h
    · cases h
  · exact h
  · cases h

theorem ev_congr {σ σ' : Nat → V} {x : Operand} (h : ∀ t, x = .tmp t → σ t = σ' t) : ev σ x = ev σ' x := by
  cases x with
  | tmp t => exact h t rfl
  | _ => rfl
theorem evl_congr {σ σ' : Nat → V} {l : List Operand} (h : ∀ x ∈ l, ev σ x = ev σ' x) : l.map (ev σ) = l.map (ev σ') := List.map_congr_left h
theorem vbd_congr {σ σ' : Nat → V} {lo : Option Operand} {d : Nat} (h : ∀ x ∈ lo.toList, ev σ x = ev σ' x) : vbd σ lo d = vbd σ' lo d := by
  cases lo with
  | none => rfl
  | some x => simp only [vbd, h x (by simp)]

/-- What becomes of objects. -/
abbrev Eff := List (Nat × Option Ob)
def app : Eff → Hp → Hp
  | [], M => M
  | e :: r, M => app r (setM M e.1 e.2)
def dropE : Option Nat → Eff
  | none => []
  | some i => [(i, none)]
theorem app_append (a b : Eff) (M : Hp) : app (a ++ b) M = app b (app a M) := by
  induction a generalizing M with
  | nil => rfl
  | cons e r ih => exact ih _
theorem app_dropE (oi : Option Nat) (id : Nat) (o : Option Ob) (M : Hp) : app (dropE oi ++ [(id, o)]) M = setM (dropM M oi) id o := by cases oi <;> rfl

def Yl (P : Program) (o : Oper) (σ : Nat → V) (M : Hp) (id : Nat) (u : V) (es : Eff) : Prop :=
  ∀ B M', Sub M M' → OpW P B o σ M' id fun u' M'' => u' = u ∧ M'' = app es M'

/-! ### A region's operations -/
/-- What an operation comes to. -/
structure Yd where
  u : V
  es : Eff

structure Rg where
  P : Program
  nt : Nat
  ops : Array Oper
  n0 : Nat
  h : Nat → List Nat
  t : Nat → Option (List Nat)

def hideL (l : List Nat) (M : Hp) : Hp := fun x => bif l.elem x then none else M x
theorem hideL_eq (l : List Nat) (M : Hp) (x : Nat) : hideL l M x = if l.contains x then none else M x := by
  unfold hideL
  rw [List.elem_eq_contains]
  cases l.contains x <;> rfl
theorem hideL_sub (l : List Nat) (M : Hp) : Sub (hideL l M) M := fun x o h => by
  rw [hideL_eq] at h
  split at h
  · cases h
  · exact h

/-- The slots that an operation looks at, and no other. -/
def see (ops : Array Oper) (o : Oper) (σ : Nat → V) : Nat → V := fun t => if (o.looksAt ops).contains t then σ t else .any

theorem ev_see {ops : Array Oper} {o : Oper} {σ : Nat → V} {x : Operand} (h : x ∈ o.op.operands.toList) : ev (see ops o σ) x = ev σ x := by
  refine ev_congr fun t e => ?_
  subst e
  unfold see
  rw [if_pos]
  simp only [Oper.looksAt, List.contains_iff_mem, List.mem_append, List.mem_filterMap]
  exact .inl ⟨.tmp t, h, rfl⟩

theorem maps_see {ops : Array Oper} {o : Oper} {σ : Nat → V} {a : Act} {F : Fz} {ν : Nu} (h : Maps a F ν σ) : Maps a F ν (see ops o σ) := fun t => by
  unfold see
  split
  · exact h t
  · exact .any _

/-- An operation in its place: it may be guarded. -/
def OpD (G : Rg) (o : Oper) (σ : Nat → V) (M : Hp) (id : Nat) (d : Yd) : Prop :=
  match o.guard with
  | none => Yl G.P o (see G.ops o σ) M id d.u d.es
  | some (j, want) => ∃ t, (G.ops[j]?).bind (·.dst) = some t ∧ ((σ t = .tup [] ∧ d = ⟨.tup [], []⟩) ∨
      ∃ b, σ t = .val (.bool b) ∧ (b = want → Yl G.P o (see G.ops o σ) M id d.u d.es) ∧ (b ≠ want → d = ⟨.tup [], []⟩))

def tOk (l : Option (List Nat)) (es : Eff) : Bool := match l with
  | none => true
  | some l => es.all fun e => l.contains e.1

/-- The operations in the text's order. -/
def Lx (G : Rg) : List Oper → Nat → (Nat → V) → Hp → List Yd → (Nat → V) → Hp → Prop
  | [], _, σ, M, [], σ', M' => σ' = σ ∧ M' = M
  | o :: os, i, σ, M, d :: ds, σ', M' => dstOk G.nt o.dst ∧ OpD G o σ (hideL (G.h i) M) (G.n0 + i) d ∧ tOk (G.t i) d.es = true ∧ Lx G os (i + 1) (upd σ o.dst d.u) (app d.es M) ds σ' M'
  | _, _, _, _, _, _, _ => False

theorem upd_other {σ : Nat → V} {d : Option Nat} {u : V} {t : Nat} (h : d ≠ some t) : upd σ d u t = σ t := by
  rw [upd_eq, if_neg (fun e => h e.symm)]

theorem Lx.len {G : Rg} : ∀ {os : List Oper} {i : Nat} {σ σ' : Nat → V} {M M' : Hp} {ds : List Yd}, Lx G os i σ M ds σ' M' → ds.length = os.length := by
  intro os
  induction os with
  | nil =>
    intro i σ σ' M M' ds h
    cases ds with
    | nil => rfl
    | cons => exact h.elim
  | cons o os ih =>
    intro i σ σ' M M' ds h
    cases ds with
    | nil => exact h.elim
    | cons d ds => simp [ih h.2.2.2]

/-- One step's end is the next one's beginning: in its place, by its number. -/
theorem opD_step {G : Rg} {X : Cx} {R : Exit → Act → World → Prop} {o : Oper} {σ : Nat → V} {M : Hp} {n : Nat} {d : Yd} {a : Act} {w : World} {F : Fz} {ν : Nu} {l : List Nat} (hok : Ok X.B F ν M w) (hid : ν n = none) (hN : ∃ N, ∀ x, N ≤ x → ν x = none) (hm : Maps a F ν σ)
    (h : OpD G o σ (hideL l M) n d) {K : Act → World → Prop} (hK : ∀ v w' F' ν', Ok X.B F' ν' (app d.es M) w' → Fz.le F F' → Nu.le ν ν' → (∀ x, x ≠ n → ν' x = ν x) → Rel F' ν' v d.u → K (a.put o.dst v) w') :
    if Region.wanted o (yielded G.ops a.tmps) then o.wp G.P a w K R ∨ (o.asks G.P a w ∧ LetsOut R) else K (a.put o.dst undef) w := by
  have go : Yl G.P o (see G.ops o σ) (hideL l M) n d.u d.es → o.wp G.P a w K R := fun hy => by
    refine Oper.wp_mono ?_ (wp_of_false (hy X.B M (hideL_sub l M) a w F ν hok hid hN (maps_see hm)))
    rintro a' w' ⟨v, u, M', F', ν', rfl, ⟨rfl, rfl⟩, hok, hF, hN, hn, hrel⟩
    exact hK v w' F' ν' hok hF hN hn hrel
  have no : d = ⟨.tup [], []⟩ → K (a.put o.dst undef) w := fun e => by
    subst e
    exact hK undef w F ν hok (Fz.le_refl _) (Nu.le_refl _) (fun _ _ => rfl) (.tup [] [] rfl (fun j v u h => by simp at h))
  unfold OpD at h
  split at h
  · rename_i hg
    rw [if_pos (by simp [Region.wanted, hg])]
    exact .inl (go h)
  · rename_i j want hg
    obtain ⟨t, hj, h⟩ := h
    rcases h with ⟨ht, he⟩ | ⟨b, ht, h1, h2⟩
    · have hrel := hm t
      rw [ht] at hrel
      have hy : yielded G.ops a.tmps j = none := by
        unfold yielded
        rw [hj]
        simp only [Option.bind_some]
        cases hq : a.tmps[t]? with
        | none => rfl
        | some q =>
          rw [Array.getD_eq_getD_getElem?, hq] at hrel
          simp only [Option.getD_some] at hrel
          cases hrel
          rfl
      rw [if_neg (by simp [Region.wanted, hg, hy])]
      exact no he
    · have hrel := hm t
      rw [ht] at hrel
      have hv := rel_val hrel
      have hy : yielded G.ops a.tmps j = some b := by
        unfold yielded
        rw [hj]
        simp only [Option.bind_some]
        have : a.tmps[t]? = some (.bool b) := by
          rw [Array.getD_eq_getD_getElem?] at hv
          cases hq : a.tmps[t]? with
          | none => rw [hq] at hv; simp [undef] at hv
          | some q => rw [hq] at hv; simpa using hv
        rw [this]
      by_cases hb : b = want
      · rw [if_pos (by simp [Region.wanted, hg, hy, hb])]
        exact .inl (go (h1 hb))
      · rw [if_neg (by simp [Region.wanted, hg, hy, hb])]
        exact no (h2 hb)

theorem lx_region {G : Rg} {X : Cx} {R : Exit → Act → World → Prop} {σ' : Nat → V} {M' : Hp} (hnt : X.nt = G.nt) (hK : ∀ a w F ν, Sim X ⟨σ', M', G.n0 + G.ops.size⟩ a w F ν → R .normal a w) :
    ∀ (os : List Oper) (i : Nat) (σ : Nat → V) (M : Hp) (ds : List Yd) (a : Act) (w : World) (F : Fz) (ν : Nu), os = G.ops.toList.drop i → Lx G os i σ M ds σ' M' → Sim X ⟨σ, M, G.n0 + i⟩ a w F ν → i ≤ G.ops.size →
    wpOps G.P G.ops R (List.range' i (G.ops.size - i)) a w := by
  intro os
  induction os with
  | nil =>
    intro i σ M ds a w F ν ho h hs hi
    have : G.ops.size ≤ i := by
      have := congrArg List.length ho
      simp at this
      omega
    have e : i = G.ops.size := by omega
    have : G.ops.size - i = 0 := by omega
    rw [this]
    cases ds with
    | nil => obtain ⟨rfl, rfl⟩ := h; subst e; exact hK _ _ _ _ hs
    | cons => exact h.elim
  | cons o os ih =>
    intro i σ M ds a w F ν ho h hs hi
    cases ds with
    | nil => exact h.elim
    | cons d ds =>
      have hi : i < G.ops.size := by
        have := congrArg List.length ho
        simp at this
        omega
      have hoi : G.ops[i]? = some o := by
        have h1 : (G.ops.toList.drop i)[0]? = some o := by rw [← ho]; rfl
        rw [List.getElem?_drop] at h1
        simpa using h1
      have hos : os = G.ops.toList.drop (i + 1) := by
        have h1 := congrArg List.tail ho
        simpa using h1
      have hr : List.range' i (G.ops.size - i) = i :: List.range' (i + 1) (G.ops.size - (i + 1)) := by
        have : G.ops.size - i = (G.ops.size - (i + 1)) + 1 := by omega
        rw [this, List.range'_succ]
      rw [hr]
      simp only [wpOps, hoi]
      obtain ⟨h1, h2, _, h4⟩ := h
      refine opD_step (X := X) hs.ok (hs.nxt _ (Nat.le_refl _)) ⟨_, hs.nxt⟩ hs.maps h2 fun v w' F' ν' hok hF hN hn hrel => ?_
      exact ih (i + 1) _ _ ds _ _ F' ν' hos h4 (hs.step (by rw [hnt]; exact h1) hok hF hN hn hrel) hi

/-- Its guard, if it has one, is on. -/
def GOn (G : Rg) (o : Oper) (σ : Nat → V) : Prop := match o.guard with
  | none => True
  | some (j, want) => ∃ t, (G.ops[j]?).bind (·.dst) = some t ∧ σ t = .val (.bool want)
/-- What a step is asked besides its outcome. -/
structure Ck (G : Rg) (o : Oper) (i : Nat) (σ : Nat → V) (es : Eff) : Prop where
  d : dstOk G.nt o.dst
  t : tOk (G.t i) es = true
  g : GOn G o σ
theorem k0 {G : Rg} {o : Oper} {i : Nat} {σ : Nat → V} {es : Eff} (h : (dstB G.nt o.dst && tOk (G.t i) es && o.guard.isNone) = true) : Ck G o i σ es := by
  simp only [Bool.and_eq_true, Option.isNone_iff_eq_none] at h
  exact ⟨dstB_ok h.1.1, h.1.2, by unfold GOn; rw [h.2]; trivial⟩
theorem k1 {G : Rg} {o : Oper} {i j t : Nat} {want : Bool} {σ : Nat → V} {es : Eff} (h : (dstB G.nt o.dst && tOk (G.t i) es) = true) (hg : o.guard = some (j, want)) (ht : (G.ops[j]?).bind (·.dst) = some t) (hv : σ t = .val (.bool want)) : Ck G o i σ es := by
  simp only [Bool.and_eq_true] at h
  exact ⟨dstB_ok h.1, h.2, by unfold GOn; rw [hg]; exact ⟨t, ht, hv⟩⟩

section
variable {G : Rg} {o : Oper} {os : List Oper} {i : Nat} {σ σ' : Nat → V} {M M' : Hp} {u : V} {es : Eff} {ds : List Yd}
/-- A step that is made. -/
theorem lx_on (c : Ck G o i σ es) (h : Yl G.P o (see G.ops o σ) (hideL (G.h i) M) (G.n0 + i) u es) (r : Lx G os (i + 1) (upd σ o.dst u) (app es M) ds σ' M') : Lx G (o :: os) i σ M (⟨u, es⟩ :: ds) σ' M' := by
  refine ⟨c.d, ?_, c.t, r⟩
  have g := c.g
  unfold GOn at g
  unfold OpD
  split at g
  · exact h
  · rename_i j want hg
    obtain ⟨t, h1, h2⟩ := g
    exact ⟨t, h1, .inr ⟨want, h2, fun _ => h, fun e => absurd rfl e⟩⟩
theorem tOk_nil (l : Option (List Nat)) : tOk l [] = true := by cases l <;> rfl
/-- A step that its guard lets out. -/
theorem lx_off {j t : Nat} {want : Bool} (hg : o.guard = some (j, want)) (ht : (G.ops[j]?).bind (·.dst) = some t) (hv : σ t = .val (.bool (!want))) (hd : dstB G.nt o.dst = true) (r : Lx G os (i + 1) (upd σ o.dst (.tup [])) M ds σ' M') : Lx G (o :: os) i σ M (⟨.tup [], []⟩ :: ds) σ' M' := by
  refine ⟨dstB_ok hd, ?_, tOk_nil _, r⟩
  unfold OpD
  rw [hg]
  exact ⟨t, ht, .inr ⟨!want, hv, fun e => absurd e (by cases want <;> decide), fun _ => rfl⟩⟩
/-- A step whose guard was let out. -/
theorem lx_dead {j t : Nat} {want : Bool} (hg : o.guard = some (j, want)) (ht : (G.ops[j]?).bind (·.dst) = some t) (hv : σ t = .tup []) (hd : dstB G.nt o.dst = true) (r : Lx G os (i + 1) (upd σ o.dst (.tup [])) M ds σ' M') : Lx G (o :: os) i σ M (⟨.tup [], []⟩ :: ds) σ' M' := by
  refine ⟨dstB_ok hd, ?_, tOk_nil _, r⟩
  unfold OpD
  rw [hg]
  exact ⟨t, ht, .inl ⟨hv, rfl⟩⟩
theorem lx_nil : Lx G [] i σ M [] σ M := ⟨rfl, rfl⟩
end
end Go.Ka
namespace Go.Ka
open Go.RowKit
variable [Tab]

def ids (es : Eff) : List Nat := es.map (·.1)

theorem app_other {es : Eff} {M : Hp} {x : Nat} (h : x ∉ ids es) : app es M x = M x := by
  induction es generalizing M with
  | nil => rfl
  | cons e r ih =>
    simp only [ids, List.map_cons, List.mem_cons, not_or] at h
    exact (ih (M := setM M e.1 e.2) h.2).trans (setM_ne h.1)

theorem app_at {es : Eff} {M M' : Hp} {x : Nat} (h : x ∈ ids es) : app es M x = app es M' x := by
  induction es generalizing M M' with
  | nil => simp [ids] at h
  | cons e r ih =>
    by_cases hr : x ∈ ids r
    · exact ih hr
    · simp only [ids, List.map_cons, List.mem_cons] at h
      rcases h with rfl | h
      · show app r _ _ = app r _ _
        rw [app_other hr, app_other hr, setM_same, setM_same]
      · exact absurd h hr

theorem app_comm {a b : Eff} (M : Hp) (h : ∀ x ∈ ids a, x ∉ ids b) : app a (app b M) = app b (app a M) := by
  funext x
  by_cases ha : x ∈ ids a
  · rw [app_other (h x ha), app_at (M' := M) ha]
  · rw [app_other ha]
    by_cases hb : x ∈ ids b
    · exact app_at hb
    · rw [app_other hb, app_other hb, app_other ha]

theorem hide_app {es : Eff} {l : List Nat} {M : Hp} (h : ∀ x ∈ ids es, x ∈ l) : hideL l (app es M) = hideL l M := by
  funext x
  rw [hideL_eq, hideL_eq]
  split
  · rfl
  · rename_i hx
    exact app_other fun hm => hx (by simpa using h x hm)

theorem see_upd {ops : Array Oper} {o : Oper} {σ : Nat → V} {d : Option Nat} {u : V} (h : ∀ x, d = some x → x ∉ o.looksAt ops) : see ops o (upd σ d u) = see ops o σ := by
  funext t
  unfold see
  split
  · rename_i ht
    exact upd_other fun e => h t e (by simpa using ht)
  · rfl

theorem opD_upd {G : Rg} {o : Oper} {σ : Nat → V} {M : Hp} {id : Nat} {y : Yd} {d : Option Nat} {u : V} (h : ∀ x, d = some x → x ∉ o.looksAt G.ops) : OpD G o (upd σ d u) M id y ↔ OpD G o σ M id y := by
  unfold OpD
  rw [see_upd h]
  split
  · exact Iff.rfl
  · rename_i j want hg
    have : ∀ t, (G.ops[j]?).bind (·.dst) = some t → upd σ d u t = σ t := fun t ht => upd_other fun e => h t e (by
      simp only [Oper.looksAt, hg, List.mem_append]
      exact .inr (by rw [ht]; simp))
    constructor
    · rintro ⟨t, ht, hx⟩
      rw [this t ht] at hx
      exact ⟨t, ht, hx⟩
    · rintro ⟨t, ht, hx⟩
      exact ⟨t, ht, by rw [this t ht]; exact hx⟩

theorem upd_comm {σ : Nat → V} {d d' : Option Nat} {u u' : V} (h : ∀ x, d = some x → d' ≠ some x) : upd (upd σ d u) d' u' = upd (upd σ d' u') d u := by
  funext t
  simp only [upd_eq]
  by_cases h1 : some t = d
  · have : ¬ (some t = d') := fun e => h t h1.symm e.symm
    simp [h1]
    subst h1
    simp [this]
  · simp [h1]

section
variable {G : Rg} {ds : List Yd} {Q : (Nat → V) → Hp → Prop}

/-- Whatever comes next comes to what is told of it. -/
def An (G : Rg) (ds : List Yd) (Q : (Nat → V) → Hp → Prop) : Nat → Array Bool → (Nat → V) → Hp → Prop
  | 0, listed, σ, M => Region.ready .any G.ops listed = [] ∧ Q σ M
  | fuel + 1, listed, σ, M => (Region.ready .any G.ops listed = [] → Q σ M) ∧
    ∀ i ∈ Region.ready .any G.ops listed, ∃ o d, G.ops[i]? = some o ∧ ds[i]? = some d ∧ dstOk G.nt o.dst ∧ OpD G o σ (hideL (G.h i) M) (G.n0 + i) d ∧ An G ds Q fuel (listed.setIfInBounds i true) (upd σ o.dst d.u) (app d.es M)

/-- Two operations that do not touch each other. -/
def Sep (G : Rg) (i j : Nat) (oi oj : Oper) (di dj : Yd) : Prop :=
  oi.apart G.ops oj = true ∧ (∀ x ∈ ids di.es, x ∈ G.h j ∧ x ∉ ids dj.es) ∧ ∀ x ∈ ids dj.es, x ∈ G.h i

theorem An_first {i : Nat} {oi : Oper} {di : Yd} (hi : G.ops[i]? = some oi) (hdi : ds[i]? = some di) (S : List Nat) (hiS : i ∈ S) (hS : ∀ k ∈ S, k ≠ i → ∃ o, G.ops[k]? = some o ∧ ∃ e ∈ o.after, Region.binds .any e = true ∧ e.on ∈ S) :
    ∀ (fuel : Nat) (listed : Array Bool) (σ : Nat → V) (M : Hp), (∀ k ∈ S, listed.getD k false = false) →
      (∀ j oj dj, G.ops[j]? = some oj → ds[j]? = some dj → j ∉ S → listed.getD j true = false → Sep G i j oi oj di dj) →
      i ∈ Region.ready .any G.ops listed → dstOk G.nt oi.dst → OpD G oi σ (hideL (G.h i) M) (G.n0 + i) di →
      An G ds Q fuel (listed.setIfInBounds i true) (upd σ oi.dst di.u) (app di.es M) → An G ds Q (fuel + 1) listed σ M := by
  intro fuel
  induction fuel with
  | zero =>
    intro listed σ M _ _ hr hd hy H
    refine ⟨fun h => (by rw [h] at hr; cases hr), fun j hj => ?_⟩
    by_cases hji : j = i
    · subst hji; exact ⟨oi, di, hi, hdi, hd, hy, H⟩
    · have := ready_mono hj hji
      rw [H.1] at this
      cases this
  | succ fuel ih =>
    intro listed σ M hun hfree hr hd hy H
    refine ⟨fun h => (by rw [h] at hr; cases hr), fun j hj => ?_⟩
    by_cases hji : j = i
    · subst hji; exact ⟨oi, di, hi, hdi, hd, hy, H⟩
    · obtain ⟨oj, dj, hoj, hdj, hdd, h1, h2⟩ := H.2 j (ready_mono hj hji)
      obtain ⟨hjun, oj', hoj', hall⟩ := mem_ready.1 hj
      rw [hoj] at hoj'
      cases hoj'
      have hjS : j ∉ S := fun hjS => by
        obtain ⟨o, ho, e, he, hb, hes⟩ := hS j hjS hji
        rw [hoj] at ho
        cases ho
        have := hall e he hb
        rw [hun _ hes] at this
        cases this
      obtain ⟨hap, hs1, hs2⟩ := hfree j oj dj hoj hdj hjS hjun
      obtain ⟨a1, a2, a3⟩ := Oper.apart_spec hap
      have hjj : OpD G oj σ (hideL (G.h j) M) (G.n0 + j) dj := by
        rw [hide_app (fun x hx => (hs1 x hx).1)] at h1
        exact (opD_upd a1).1 h1
      refine ⟨oj, dj, hoj, hdj, hdd, hjj, ih (listed.setIfInBounds j true) _ _ (fun k hk => ?_) (fun k ok dk hk hdk hkS hkun => ?_) (ready_mono hr (Ne.symm hji)) hd ?_ ?_⟩
      · have hkj : j ≠ k := fun e => hjS (e ▸ hk)
        rw [getD_set_ne false hkj]
        exact hun k hk
      · refine hfree k ok dk hk hdk hkS ?_
        by_cases hjk : j = k
        · subst hjk; exact hjun
        · rw [getD_set_ne true hjk] at hkun; exact hkun
      · rw [hide_app hs2]
        exact (opD_upd a3).2 hy
      · rw [Array.setIfInBounds_comm _ _ hji, ← upd_comm a2, ← app_comm M fun x hx hm => (hs1 x hm).2 hx]
        exact h2

/-- The orders' own work: which operations may touch which objects, all by codes. -/
def look (T : List (Nat × List Nat)) (i : Nat) : List Nat := match T.find? (fun p => p.1 == i) with
  | some p => p.2
  | none => []
def dec (n0 sz : Nat) (olds : List Nat) (c : Nat) : Nat := if c < sz then n0 + c else olds.getD (c - sz) 0
def deps : List Oper → Nat → List Nat → List Nat
  | [], _, acc => acc
  | o :: os, j, acc => deps os (j + 1) (if o.after.any (fun e => Region.binds .any e && acc.contains e.on) then j :: acc else acc)

def pairOk (ops : Array Oper) (T H : List (Nat × List Nat)) (bar : List Nat) (i j : Nat) (oi oj : Oper) : Bool :=
  oi.apart ops oj && !bar.contains i && !bar.contains j && (look T i).all (fun c => (look H j).contains c && !(look T j).contains c) && (look T j).all (fun c => (look H i).contains c)

def rowOk (ops : Array Oper) (T H : List (Nat × List Nat)) (bar : List Nat) (no i : Nat) (oi : Oper) (S : List Nat) : Bool :=
  oi.after.all (fun e => !Region.binds .any e || decide (e.on < i)) && S.contains i &&
    S.all (fun k => decide (i ≤ k) && (k == i || (match ops[k]? with
      | some o => o.after.any (fun e => Region.binds .any e && S.contains e.on)
      | none => false))) &&
    (List.range ops.size).all (fun j => decide (j ≤ i) || S.contains j || (match ops[j]? with
      | some oj => pairOk ops T H bar i j oi oj
      | none => false)) && (look T i).all (fun c => decide (c < ops.size + no))

def stat (ops : Array Oper) (T H : List (Nat × List Nat)) (bar : List Nat) (no : Nat) : Bool :=
  (List.range ops.size).all fun i => match ops[i]? with
    | some oi => rowOk ops T H bar no i oi (deps ops.toList 0 [i])
    | none => false

theorem dec_inj {n0 sz : Nat} {olds : List Nat} (h1 : ∀ x ∈ olds, x < n0) (h2 : olds.Nodup) {c c' : Nat} (hc : c < sz + olds.length) (hc' : c' < sz + olds.length) (h : dec n0 sz olds c = dec n0 sz olds c') : c = c' := by
  unfold dec at h
  have lt : ∀ k, k < olds.length → olds.getD k 0 < n0 := fun k hk => h1 _ (by rw [List.getD_eq_getElem?_getD, List.getElem?_eq_getElem hk]; exact List.getElem_mem hk)
  split at h <;> split at h
  · omega
  · have := lt (c' - sz) (by omega); omega
  · have := lt (c - sz) (by omega); omega
  · have e1 : c - sz < olds.length := by omega
    have e2 : c' - sz < olds.length := by omega
    rw [List.getD_eq_getElem?_getD, List.getD_eq_getElem?_getD, List.getElem?_eq_getElem e1, List.getElem?_eq_getElem e2] at h
    simp only [Option.getD_some] at h
    have hp := List.pairwise_iff_getElem.1 h2
    rcases Nat.lt_trichotomy (c - sz) (c' - sz) with hlt | he | hlt
    · exact absurd h (hp _ _ e1 e2 hlt)
    · omega
    · exact absurd h.symm (hp _ _ e2 e1 hlt)

/-- A region that draws its order. -/
def anyG (P : Program) (nt : Nat) (ops : Array Oper) (n0 : Nat) (olds : List Nat) (T H : List (Nat × List Nat)) (bar : List Nat) : Rg :=
  ⟨P, nt, ops, n0, fun i => (look H i).map (dec n0 ops.size olds), fun i => if bar.contains i then none else some ((look T i).map (dec n0 ops.size olds))⟩

theorem Lx.tok {G : Rg} : ∀ {os : List Oper} {i : Nat} {σ σ' : Nat → V} {M M' : Hp} {ds : List Yd}, Lx G os i σ M ds σ' M' → ∀ k d, ds[k]? = some d → tOk (G.t (i + k)) d.es = true := by
  intro os
  induction os with
  | nil =>
    intro i σ σ' M M' ds h k d hd
    cases ds with
    | nil => simp at hd
    | cons => exact h.elim
  | cons o os ih =>
    intro i σ σ' M M' ds h k d hd
    cases ds with
    | nil => exact h.elim
    | cons d0 ds =>
      obtain ⟨_, _, h3, h4⟩ := h
      cases k with
      | zero => simp at hd; subst hd; exact h3
      | succ k => have := ih h4 k d (by simpa using hd); rwa [Nat.add_assoc, Nat.add_comm 1 k] at this

theorem ids_tok {l : List Nat} {es : Eff} (h : tOk (some l) es = true) : ∀ x ∈ ids es, x ∈ l := by
  intro x hx
  simp only [tOk, List.all_eq_true, List.contains_iff_mem] at h
  obtain ⟨e, he, rfl⟩ := List.mem_map.1 hx
  exact h e he

theorem sep_of {P : Program} {nt n0 i j : Nat} {ops : Array Oper} {olds bar : List Nat} {T H : List (Nat × List Nat)} {oi oj : Oper} {di dj : Yd} (h1 : ∀ x ∈ olds, x < n0) (h2 : olds.Nodup) (hp : pairOk ops T H bar i j oi oj = true)
    (ci : ∀ c ∈ look T i, c < ops.size + olds.length) (cj : ∀ c ∈ look T j, c < ops.size + olds.length)
    (ti : tOk ((anyG P nt ops n0 olds T H bar).t i) di.es = true) (tj : tOk ((anyG P nt ops n0 olds T H bar).t j) dj.es = true) : Sep (anyG P nt ops n0 olds T H bar) i j oi oj di dj := by
  simp only [pairOk, Bool.and_eq_true, Bool.not_eq_true', List.all_eq_true, List.contains_iff_mem] at hp
  obtain ⟨⟨⟨⟨hap, hbi⟩, hbj⟩, hi⟩, hj⟩ := hp
  simp only [anyG, hbi, hbj] at ti tj
  have mi := ids_tok ti
  have mj := ids_tok tj
  refine ⟨hap, fun x hx => ?_, fun x hx => ?_⟩
  · obtain ⟨c, hc, rfl⟩ := List.mem_map.1 (mi x hx)
    obtain ⟨g1, g2⟩ := hi c hc
    refine ⟨List.mem_map.2 ⟨c, g1, rfl⟩, fun hx' => ?_⟩
    obtain ⟨c', hc', e⟩ := List.mem_map.1 (mj _ hx')
    have := dec_inj h1 h2 (cj c' hc') (ci c hc) e
    subst this
    simp [hc'] at g2
  · obtain ⟨c, hc, rfl⟩ := List.mem_map.1 (mj x hx)
    exact List.mem_map.2 ⟨c, hj c hc, rfl⟩

theorem getD_lt {a : Array Bool} {k : Nat} {b c : Bool} (h : a[k]? = some b) : a.getD k c = b := by
  rw [Array.getD_eq_getD_getElem?, h]; rfl

theorem An_lex {P : Program} {nt n0 : Nat} {ops : Array Oper} {olds bar : List Nat} {T H : List (Nat × List Nat)} {ds : List Yd} {σ' : Nat → V} {M' : Hp} (h1 : ∀ x ∈ olds, x < n0) (h2 : olds.Nodup) (hst : stat ops T H bar olds.length = true)
    (htok : ∀ k d, ds[k]? = some d → tOk ((anyG P nt ops n0 olds T H bar).t k) d.es = true) :
    ∀ (os : List Oper) (es : List Yd) (i : Nat) (σ : Nat → V) (M : Hp) (listed : Array Bool), os = ops.toList.drop i → es = ds.drop i → Lx (anyG P nt ops n0 olds T H bar) os i σ M es σ' M' → listed.size = ops.size → i ≤ ops.size →
      (∀ k, k < ops.size → listed[k]? = some (decide (k < i))) → An (anyG P nt ops n0 olds T H bar) ds (fun σ M => σ = σ' ∧ M = M') (ops.size - i) listed σ M := by
  have row : ∀ i oi, ops[i]? = some oi → rowOk ops T H bar olds.length i oi (deps ops.toList 0 [i]) = true := fun i oi hi => by
    have hlt := (Array.getElem?_eq_some_iff.1 hi).1
    have := List.all_eq_true.1 hst i (List.mem_range.2 hlt)
    simp only [hi] at this
    exact this
  intro os
  induction os with
  | nil =>
    intro es i σ M listed ho hes h hsz hi hl
    have e : ops.size - i = 0 := by
      have := congrArg List.length ho
      simp at this
      omega
    rw [e]
    cases es with
    | cons => exact h.elim
    | nil =>
      refine ⟨?_, h.1.symm, h.2.symm⟩
      rw [List.eq_nil_iff_forall_not_mem]
      intro j hj
      obtain ⟨hj, o, hoj, _⟩ := mem_ready.1 hj
      have hlt : j < ops.size := (Array.getElem?_eq_some_iff.1 (show ops[j]? = some o from hoj)).1
      rw [getD_lt (hl j hlt)] at hj
      simp at hj
      omega
  | cons o os ih =>
    intro es i σ M listed ho hes h hsz hi hl
    cases es with
    | nil => exact h.elim
    | cons d es =>
      have hi' : i < ops.size := by
        have := congrArg List.length ho
        simp at this
        omega
      have hoi : ops[i]? = some o := by
        have h1 : (ops.toList.drop i)[0]? = some o := by rw [← ho]; rfl
        rw [List.getElem?_drop] at h1
        simpa using h1
      have hos : os = ops.toList.drop (i + 1) := by
        have h1 := congrArg List.tail ho
        simpa using h1
      have hdi : ds[i]? = some d := by
        have h1 : (ds.drop i)[0]? = some d := by rw [← hes]; rfl
        rw [List.getElem?_drop] at h1
        simpa using h1
      have hess : es = ds.drop (i + 1) := by
        have h1 := congrArg List.tail hes
        simpa using h1
      obtain ⟨g1, g2, _, g4⟩ := h
      have hrow := row i o hoi
      simp only [rowOk, Bool.and_eq_true, List.contains_iff_mem] at hrow
      obtain ⟨⟨⟨⟨r1, r2⟩, r3⟩, r4⟩, _⟩ := hrow
      have hs : ops.size - i = (ops.size - (i + 1)) + 1 := by omega
      rw [hs]
      refine An_first (G := anyG P nt ops n0 olds T H bar) hoi hdi (deps ops.toList 0 [i]) r2 (fun k hk hne => ?_) _ _ _ _ (fun k hk => ?_) (fun j oj dj hoj hdj hjS hun => ?_) ?_ g1 g2 ?_
      · have := List.all_eq_true.1 r3 k hk
        simp only [Bool.and_eq_true, Bool.or_eq_true, beq_iff_eq] at this
        rcases this.2 with h | h
        · exact absurd h hne
        · split at h
          · rename_i o' ho'
            simp only [Array.any_eq_true', Bool.and_eq_true, List.contains_iff_mem] at h
            obtain ⟨e, he, hb, hm⟩ := h
            exact ⟨o', ho', e, he, hb, hm⟩
          · cases h
      · have := List.all_eq_true.1 r3 k hk
        simp only [Bool.and_eq_true, decide_eq_true_eq] at this
        by_cases hlt : k < ops.size
        · rw [getD_lt (hl k hlt)]
          simp
          omega
        · rw [Array.getD_eq_getD_getElem?, Array.getElem?_eq_none (by omega)]
          rfl
      · have hlt : j < ops.size := (Array.getElem?_eq_some_iff.1 (show ops[j]? = some oj from hoj)).1
        rw [getD_lt (hl j hlt)] at hun
        simp only [decide_eq_false_iff_not, Nat.not_lt] at hun
        have hne : j ≠ i := fun e => hjS (e ▸ r2)
        have hp := List.all_eq_true.1 r4 j (List.mem_range.2 hlt)
        have hoj' : ops[j]? = some oj := hoj
        simp only [hoj', Bool.or_eq_true, decide_eq_true_eq, List.contains_iff_mem] at hp
        have hp : pairOk ops T H bar i j o oj = true := by
          rcases hp with (h | h) | h
          · omega
          · exact absurd h hjS
          · exact h
        have codes : ∀ i oi, ops[i]? = some oi → ∀ c ∈ look T i, c < ops.size + olds.length := fun i oi hi c hc => by
          have := row i oi hi
          simp only [rowOk, Bool.and_eq_true] at this
          simpa using List.all_eq_true.1 this.2 c hc
        exact sep_of h1 h2 hp (codes _ _ hoi) (codes _ _ hoj) (htok _ _ hdi) (htok _ _ hdj)
      · refine mem_ready.2 ⟨by rw [getD_lt (hl i hi')]; simp, o, hoi, fun e he hb => ?_⟩
        have := Array.all_eq_true'.1 r1 e he
        simp only [hb, Bool.not_true, Bool.false_or, decide_eq_true_eq] at this
        rw [getD_lt (hl e.on (by omega))]
        simpa using this
      · refine ih es (i + 1) _ _ _ hos hess g4 (by simpa using hsz) hi' fun k hk => ?_
        by_cases e : k = i
        · subst e
          rw [Array.getElem?_setIfInBounds_self_of_lt (by omega)]
          simp
        · rw [Array.getElem?_setIfInBounds_ne (Ne.symm e), hl k hk]
          congr 1
          simp only [decide_eq_decide]
          omega

theorem An_sound {X : Cx} {R : Exit → Act → World → Prop} (hnt : X.nt = G.nt) (hQ : ∀ σ M a w F ν, Sim X ⟨σ, M, G.n0 + G.ops.size⟩ a w F ν → Q σ M → R .normal a w) :
    ∀ (fuel : Nat) (listed : Array Bool) (σ : Nat → V) (M : Hp) (a : Act) (w : World) (F : Fz) (ν : Nu), listed.size = G.ops.size → An G ds Q fuel listed σ M → Ok X.B F ν M w → (∀ k, k < G.ops.size → listed.getD k false = false → ν (G.n0 + k) = none) →
      (∀ id, G.n0 + G.ops.size ≤ id → ν id = none) → Maps a F ν σ → a.tmps.size = X.nt → a.defers = [] → Fz.le X.F F → (∀ id, id < X.n → ν id = X.ν id) → X.n ≤ G.n0 → wpAny G.P .any G.ops R fuel listed a w := by
  intro fuel
  induction fuel with
  | zero =>
    intro listed σ M a w F ν hsz h hok hf hN hm hs hd hF hold hle
    exact ⟨h.1, hQ _ _ _ _ F ν ⟨hok, hN, hm, hs, hd, hF, hold, Nat.le_trans hle (Nat.le_add_right _ _)⟩ h.2⟩
  | succ fuel ih =>
    intro listed σ M a w F ν hsz h hok hf hN hm hs hd hF hold hle
    refine ⟨fun hr => hQ _ _ _ _ F ν ⟨hok, hN, hm, hs, hd, hF, hold, Nat.le_trans hle (Nat.le_add_right _ _)⟩ (h.1 hr), fun i hi => ?_⟩
    obtain ⟨o, d, hoi, hdi, hdst, hop, hA⟩ := h.2 i hi
    have hlt : i < G.ops.size := (Array.getElem?_eq_some_iff.1 hoi).1
    have hun : listed.getD i false = false := by
      have := (mem_ready.1 hi).1
      rw [Array.getD_eq_getD_getElem?] at this ⊢
      rw [Array.getElem?_eq_getElem (by omega)] at this ⊢
      exact this
    unfold wpOp
    rw [hoi]
    refine opD_step (X := X) hok (hf i hlt hun) ⟨_, hN⟩ hm hop fun v w' F' ν' hok' hF' hN' hn hrel => ?_
    refine ih _ _ _ _ _ F' ν' (by simpa using hsz) hA hok' (fun k hk hku => ?_) (fun id hid => by rw [hn id (by omega)]; exact hN id hid) (maps_put (hm.mono hF' hN') (by rw [hs, hnt]; exact hdst) hrel) (by rw [put_size]; exact hs) (by rw [put_df]; exact hd) (Fz.le_trans hF hF')
      (fun id hid => by rw [hn id (by omega)]; exact hold id hid) hle
    by_cases e : k = i
    · subst e
      rw [Array.getD_eq_getD_getElem?, Array.getElem?_setIfInBounds_self_of_lt (by omega)] at hku
      cases hku
    · rw [getD_set_ne false (Ne.symm e)] at hku
      rw [hn _ (by omega)]
      exact hf k hk hku
end
end Go.Ka
namespace Go.Ka
open Go.RowKit
variable [Tab]

/-- Names that are there already. -/
def Old (n : Nat) (u : V) : Prop := ∀ y, u.names y → y < n
def OldO (n : Nat) (o : Ob) : Prop := ∀ el ∈ o.els, ∀ u ∈ el, Old n u
/-- It names nothing. -/
def NF (u : V) : Prop := ∀ y, ¬ u.names y
theorem NF.old {u : V} (h : NF u) (n : Nat) : Old n u := fun y hy => absurd hy (h y)
def ν0 : Nu := fun _ => none
theorem Rel.nf {F : Fz} {ν ν' : Nu} {v : Value} {u : V} (h : Rel F ν v u) (hu : NF u) : Rel F ν' v u := h.less fun id hid => absurd hid (hu id)

mutual
def ren (ρ : Nat → Nat) : V → V
  | .any => .any
  | .val v => .val v
  | .arr l => .arr (renll ρ l)
  | .iptr cs => .iptr (renl ρ cs)
  | .agg cs => .agg (renl ρ cs)
  | .tup vs => .tup (renl ρ vs)
  | .fn f caps => .fn f (renl ρ caps)
  | .own j a n => .own (ρ j) a n
  | .ptr j k off => .ptr (ρ j) k off
  | .nz => .nz
  | .sp j T => .sp (ρ j) T
  | .ps j T => .ps (ρ j) T
  | .ub => .ub
  | .pp => .pp
  | .owt j n T => .owt (ρ j) n T
  | .tst l => .tst l
def renl (ρ : Nat → Nat) : List V → List V
  | [] => []
  | u :: r => ren ρ u :: renl ρ r
def renll (ρ : Nat → Nat) : List (List V) → List (List V)
  | [] => []
  | u :: r => renl ρ u :: renll ρ r
end
theorem renl_map (ρ : Nat → Nat) (l : List V) : renl ρ l = l.map (ren ρ) := by
  induction l with
  | nil => simp [renl]
  | cons u r ih => simp [renl, ih]
theorem renll_map (ρ : Nat → Nat) (l : List (List V)) : renll ρ l = l.map (List.map (ren ρ)) := by
  induction l with
  | nil => simp [renll]
  | cons u r ih => simp [renll, ih, renl_map]
theorem ren_cell (ρ : Nat → Nat) (u : V) : (ren ρ u).cell = u.cell := by cases u <;> simp [ren, V.cell]
theorem map_inv {α β : Type} {f : α → β} {l : List α} {j : Nat} {y : β} (h : (l.map f)[j]? = some y) : ∃ x, l[j]? = some x ∧ f x = y := by
  rw [List.getElem?_map] at h
  cases hx : l[j]? with
  | none => simp [hx] at h
  | some x => simp [hx] at h; exact ⟨x, rfl, h⟩

/-- New names for old ones. -/
theorem Rel.toRen {F : Fz} {ν ν' : Nu} {ρ : Nat → Nat} {v : Value} {u : V} (h : Rel F ν v u) (hs : ∀ y, u.names y → ν' (ρ y) = ν y) : Rel F ν' v (ren ρ u) := by
  induction h with
  | any v => simp only [Go.Ka.ren]; exact .any v
  | val v h => simp only [Go.Ka.ren]; exact .val v h
  | nz t v => simp only [Go.Ka.ren]; exact .nz t v
  | sp id T k p hk hT hp => simp only [Go.Ka.ren]; exact .sp (ρ id) T k p ((hs id .sp).trans hk) hT hp
  | ps id T k hk hT => simp only [Go.Ka.ren]; exact .ps (ρ id) T k ((hs id .ps).trans hk) hT
  | ub b => simp only [Go.Ka.ren]; exact .ub b
  | pp p => simp only [Go.Ka.ren]; exact .pp p
  | tst A n l hn hm hA => simp only [Go.Ka.ren]; exact .tst A n l hn hm hA
  | owt id n c T A k hk hc hm hA hB hT => simp only [Go.Ka.ren]; exact .owt (ρ id) n c T A k ((hs id .owt).trans hk) hc hm hA hB hT
  | arr A n c sz els vals hn hc hm hsz hce hA _ ih =>
    simp only [Go.Ka.ren, renll_map]
    refine .arr A n c sz _ vals (by simpa using hn) hc hm (fun x el hx => ?_) (fun x el j u hx hj => ?_) (fun h0 => ?_) (fun x el j u hx hj => ?_)
    · obtain ⟨el0, h0, rfl⟩ := map_inv hx
      rw [List.length_map]
      exact hsz x el0 h0
    · obtain ⟨el0, h0, rfl⟩ := map_inv hx
      obtain ⟨u0, h1, rfl⟩ := map_inv hj
      rw [ren_cell]
      exact hce x el0 j u0 h0 h1
    · obtain ⟨b, off, hA, h⟩ := hA h0
      refine ⟨b, off, hA, fun x el j u hx hj => ?_⟩
      obtain ⟨el0, h0, rfl⟩ := map_inv hx
      obtain ⟨u0, h1, rfl⟩ := map_inv hj
      exact h x el0 j u0 h0 h1
    · obtain ⟨el0, h0, rfl⟩ := map_inv hx
      obtain ⟨u0, h1, rfl⟩ := map_inv hj
      exact ih x el0 j u0 h0 h1 fun y hy => hs y (.arr h0 h1 hy)
  | iptr b off cs vals hce h _ ih =>
    simp only [Go.Ka.ren, renl_map]
    refine .iptr b off _ vals (fun j u hj => ?_) (fun j u hj => ?_) (fun j u hj => ?_)
    · obtain ⟨u0, h1, rfl⟩ := map_inv hj; rw [ren_cell]; exact hce j u0 h1
    · obtain ⟨u0, h1, rfl⟩ := map_inv hj; exact h j u0 h1
    · obtain ⟨u0, h1, rfl⟩ := map_inv hj; exact ih j u0 h1 fun y hy => hs y (.iptr h1 hy)
  | agg vs cs hl hce _ ih =>
    simp only [Go.Ka.ren, renl_map]
    refine .agg vs _ (by simpa using hl) (fun j u hj => ?_) (fun j v u hv hj => ?_)
    · obtain ⟨u0, h1, rfl⟩ := map_inv hj; rw [ren_cell]; exact hce j u0 h1
    · obtain ⟨u0, h1, rfl⟩ := map_inv hj; exact ih j v u0 hv h1 fun y hy => hs y (.agg h1 hy)
  | tup vs cs hl _ ih =>
    simp only [Go.Ka.ren, renl_map]
    refine .tup vs _ (by simpa using hl) (fun j v u hv hj => ?_)
    obtain ⟨u0, h1, rfl⟩ := map_inv hj; exact ih j v u0 hv h1 fun y hy => hs y (.tup h1 hy)
  | fn f vs cs hl _ ih =>
    simp only [Go.Ka.ren, renl_map]
    refine .fn f vs _ (by simpa using hl) (fun j v u hv hj => ?_)
    obtain ⟨u0, h1, rfl⟩ := map_inv hj; exact ih j v u0 hv h1 fun y hy => hs y (.fn h1 hy)
  | own id a n c A k hk hc hm hA hB => simp only [Go.Ka.ren]; exact .own (ρ id) a n c A k ((hs id .own).trans hk) hc hm hA hB
  | ptr id i off k hk => simp only [Go.Ka.ren]; exact .ptr (ρ id) i off k ((hs id .ptr).trans hk)

/-- Old names for new ones. -/
theorem Rel.unren {F : Fz} {ν ν' : Nu} {ρ : Nat → Nat} {v : Value} {r : V} (h : Rel F ν v r) : ∀ u : V, Go.Ka.ren ρ u = r → (∀ y, u.names y → ν' y = ν (ρ y)) → Rel F ν' v u := by
  induction h with
  | any v => intro u e hs; cases u <;> simp [Go.Ka.ren] at e; exact .any v
  | val v h => intro u e hs; cases u <;> simp [Go.Ka.ren] at e; subst e; exact .val _ h
  | nz t v => intro u e hs; cases u <;> simp [Go.Ka.ren] at e; exact .nz t v
  | ps id T k hk hT =>
    intro u e hs
    cases u <;> simp only [Go.Ka.ren, V.ps.injEq, reduceCtorEq] at e
    rename_i id0 T0
    obtain ⟨rfl, rfl⟩ := e
    exact .ps id0 _ k ((hs id0 .ps).trans hk) hT
  | ub b => intro u e hs; cases u <;> simp [Go.Ka.ren] at e; exact .ub b
  | pp p => intro u e hs; cases u <;> simp [Go.Ka.ren] at e; exact .pp p
  | tst A n l hn hm hA => intro u e hs; cases u <;> simp [Go.Ka.ren] at e; subst e; exact .tst A n _ hn hm hA
  | owt id n c T A k hk hc hm hA hB hT =>
    intro u e hs
    cases u <;> simp only [Go.Ka.ren, V.owt.injEq, reduceCtorEq] at e
    rename_i id0 n0 T0
    obtain ⟨rfl, rfl, rfl⟩ := e
    exact .owt id0 _ c _ A k ((hs id0 .owt).trans hk) hc hm hA hB hT
  | sp id T k p hk hT hp =>
    intro u e hs
    cases u <;> simp only [Go.Ka.ren, V.sp.injEq, reduceCtorEq] at e
    rename_i id0 T0
    obtain ⟨rfl, rfl⟩ := e
    exact .sp id0 _ k p ((hs id0 .sp).trans hk) hT hp
  | arr A n c sz els vals hn hc hm hsz hce hA _ ih =>
    intro u e hs
    cases u <;> simp only [Go.Ka.ren, V.arr.injEq, reduceCtorEq] at e
    rename_i els0
    rw [renll_map] at e
    subst e
    have at1 : ∀ {x : Nat} {el : List V}, els0[x]? = some el → (els0.map (List.map (Go.Ka.ren ρ)))[x]? = some (el.map (Go.Ka.ren ρ)) := fun hx => by rw [List.getElem?_map, hx]; rfl
    have at2 : ∀ {el : List V} {j : Nat} {u : V}, el[j]? = some u → (el.map (Go.Ka.ren ρ))[j]? = some (Go.Ka.ren ρ u) := fun hj => by rw [List.getElem?_map, hj]; rfl
    refine .arr A n c sz _ vals (by simpa using hn) hc hm (fun x el hx => ?_) (fun x el j u hx hj => ?_) (fun h0 => ?_) (fun x el j u hx hj => ?_)
    · have := hsz x _ (at1 hx); simpa using this
    · have := hce x _ j _ (at1 hx) (at2 hj); rwa [ren_cell] at this
    · obtain ⟨b, off, hA, h⟩ := hA h0
      exact ⟨b, off, hA, fun x el j u hx hj => h x _ j _ (at1 hx) (at2 hj)⟩
    · exact ih x _ j _ (at1 hx) (at2 hj) u rfl fun y hy => hs y (.arr hx hj hy)
  | iptr b off cs vals hce h _ ih =>
    intro u e hs
    cases u <;> simp only [Go.Ka.ren, V.iptr.injEq, reduceCtorEq] at e
    rename_i cs0
    rw [renl_map] at e
    subst e
    have at2 : ∀ {el : List V} {j : Nat} {u : V}, el[j]? = some u → (el.map (Go.Ka.ren ρ))[j]? = some (Go.Ka.ren ρ u) := fun hj => by rw [List.getElem?_map, hj]; rfl
    exact .iptr b off _ vals (fun j u hj => by have := hce j _ (at2 hj); rwa [ren_cell] at this) (fun j u hj => h j _ (at2 hj)) (fun j u hj => ih j _ (at2 hj) u rfl fun y hy => hs y (.iptr hj hy))
  | agg vs cs hl hce _ ih =>
    intro u e hs
    cases u <;> simp only [Go.Ka.ren, V.agg.injEq, reduceCtorEq] at e
    rename_i cs0
    rw [renl_map] at e
    subst e
    have at2 : ∀ {el : List V} {j : Nat} {u : V}, el[j]? = some u → (el.map (Go.Ka.ren ρ))[j]? = some (Go.Ka.ren ρ u) := fun hj => by rw [List.getElem?_map, hj]; rfl
    exact .agg vs _ (by simpa using hl) (fun j u hj => by have := hce j _ (at2 hj); rwa [ren_cell] at this) (fun j v u hv hj => ih j v _ hv (at2 hj) u rfl fun y hy => hs y (.agg hj hy))
  | tup vs cs hl _ ih =>
    intro u e hs
    cases u <;> simp only [Go.Ka.ren, V.tup.injEq, reduceCtorEq] at e
    rename_i cs0
    rw [renl_map] at e
    subst e
    have at2 : ∀ {el : List V} {j : Nat} {u : V}, el[j]? = some u → (el.map (Go.Ka.ren ρ))[j]? = some (Go.Ka.ren ρ u) := fun hj => by rw [List.getElem?_map, hj]; rfl
    exact .tup vs _ (by simpa using hl) (fun j v u hv hj => ih j v _ hv (at2 hj) u rfl fun y hy => hs y (.tup hj hy))
  | fn f vs cs hl _ ih =>
    intro u e hs
    cases u <;> simp only [Go.Ka.ren, V.fn.injEq, reduceCtorEq] at e
    rename_i f0 cs0
    rw [renl_map] at e
    obtain ⟨rfl, e⟩ := e
    subst e
    have at2 : ∀ {el : List V} {j : Nat} {u : V}, el[j]? = some u → (el.map (Go.Ka.ren ρ))[j]? = some (Go.Ka.ren ρ u) := fun hj => by rw [List.getElem?_map, hj]; rfl
    exact .fn _ vs _ (by simpa using hl) (fun j v u hv hj => ih j v _ hv (at2 hj) u rfl fun y hy => hs y (.fn hj hy))
  | own id a n c A k hk hc hm hA hB =>
    intro u e hs
    cases u <;> simp only [Go.Ka.ren, V.own.injEq, reduceCtorEq] at e
    rename_i id0 a0 n0
    obtain ⟨rfl, rfl, rfl⟩ := e
    exact .own id0 _ _ c A k ((hs id0 .own).trans hk) hc hm hA hB
  | ptr id i off k hk =>
    intro u e hs
    cases u <;> simp only [Go.Ka.ren, V.ptr.injEq, reduceCtorEq] at e
    rename_i id0 a0 n0
    obtain ⟨rfl, rfl, rfl⟩ := e
    exact .ptr id0 _ _ k ((hs id0 .ptr).trans hk)

/-- The blocks of objects. -/
def own0 (ν : Nu) (M : Hp) : Nat → Prop := fun b => ∃ id o k, M id = some o ∧ ν id = some k ∧ k.vt = false ∧ k.b = b

/-- What a call of which some objects are known leaves to its caller. -/
theorem Ok.call {B : Gd} {F F' : Fz} {ν νc ν' ν'' : Nu} {M Mc Mc' M'' : Hp} {w w' : World} (hok : Ok B F ν M w) (hsub : ∀ x o, Mc x = some o → M x = some o ∧ νc x = ν x)
    (h' : Ok ⟨w, F, own0 νc Mc⟩ F' ν' Mc' w') (hF : Fz.le F F') (hν : Nu.le ν ν'')
    (hM : ∀ x o, M'' x = some o → (Mc' x = some o ∧ ν'' x = ν' x ∧ ∀ el ∈ o.els, ∀ u ∈ el, ∀ y, u.names y → ν'' y = ν' y) ∨ (M x = some o ∧ Mc x = none ∧ ν'' x = ν x)) : Ok B F' ν'' M'' w' := by
  -- a frame's object lies apart from those of the call
  have apart : ∀ x o k, M x = some o → Mc x = none → ν x = some k → k.vt = false → ¬ own0 νc Mc k.b := by
    rintro x o k hm hc hk hv ⟨id, o1, k1, h1, h2, h3, h4⟩
    obtain ⟨g1, g2⟩ := hsub _ _ h1
    exact hok.inj x id o o1 k k1 hm g1 (fun e => by rw [e, h1] at hc; cases hc) hk (g2 ▸ h2) hv h3 h4.symm
  have known : ∀ x o k, Mc' x = some o → ν' x = some k → k.vt = false → (∃ id o1, Mc id = some o1 ∧ M id = some o1 ∧ ν id = some k ∨ ∃ k1, Mc id = some o1 ∧ M id = some o1 ∧ ν id = some k1 ∧ k1.vt = false ∧ k1.b = k.b) ∨ w.heap.size ≤ k.b := by
    intro x o k hm hk hv
    rcases h'.live x o k hm hk hv with ⟨id, o1, k1, h1, h2, h3, h4⟩ | h
    · obtain ⟨g1, g2⟩ := hsub _ _ h1
      exact .inl ⟨id, o1, .inr ⟨k1, h1, g1, g2 ▸ h2, h3, h4⟩⟩
    · exact .inr h
  have known' : ∀ x o k, Mc' x = some o → ν' x = some k → k.vt = false → (∃ id o1 k1, Mc id = some o1 ∧ M id = some o1 ∧ ν id = some k1 ∧ k1.vt = false ∧ k1.b = k.b) ∨ w.heap.size ≤ k.b := by
    intro x o k hm hk hv
    rcases h'.live x o k hm hk hv with ⟨id, o1, k1, h1, h2, h3, h4⟩ | h
    · obtain ⟨g1, g2⟩ := hsub _ _ h1
      exact .inl ⟨id, o1, k1, h1, g1, g2 ▸ h2, h3, h4⟩
    · exact .inr h
  have stay : ∀ b, b < B.w.heap.size → ¬ B.D b → ¬ own0 νc Mc b := by
    rintro b hb hD ⟨id, o1, k1, h1, h2, h3, rfl⟩
    obtain ⟨g1, g2⟩ := hsub _ _ h1
    rcases hok.live id o1 k1 g1 (g2 ▸ h2) h3 with h | h
    · exact hD h
    · omega
  refine ⟨h'.fz, fun x o hm => ?_, fun x y o o' k k' hx hy hne hkx hky v1 v2 => ?_, ⟨h'.below.os.trans hok.below.os, h'.below.tape.trans hok.below.tape, h'.below.output.trans hok.below.output, Nat.le_trans hok.below.size h'.below.size, fun b hb hD => ?_⟩, fun x o k hx hkx v1 => ?_, ⟨Fz.le_trans hok.tab.1 hF, h'.tab.2⟩, fun b o hb hD => ?_⟩
  · rcases hM x o hm with ⟨h1, h2, h3⟩ | ⟨h1, h2, h3⟩
    · obtain ⟨k, hk, hat, hf⟩ := h'.ob x o h1
      refine ⟨k, h2.trans hk, ?_, hf⟩
      rcases hat with ⟨hv, cur, ty, fr, g1, ⟨g2, gty⟩, g3, g4, g5, g6, g7⟩ | hat
      · refine .inl ⟨hv, cur, ty, fr, g1, ⟨g2, gty⟩, g3, g4, g5, g6, fun i el j u a b => ?_⟩
        obtain ⟨hc, v, hv, hr⟩ := g7 i el j u a b
        exact ⟨hc, v, hv, hr.less fun y hy => h3 el (List.mem_of_getElem? a) u (List.mem_of_getElem? b) y hy⟩
      · exact .inr hat
    · obtain ⟨k, hk, hat, hf⟩ := hok.ob x o h1
      refine ⟨k, h3.trans hk, hat.mono hF hν (fun hv => ?_), fun hv y => ?_⟩
      · exact h'.below.block k.b (hok.obLt h1 hk hv) (apart x o k h1 h2 hk hv)
      · have := h'.ice k.b y (hok.obLt h1 hk hv) (apart x o k h1 h2 hk hv)
        rw [this]
        exact hf hv y
  · rcases hM x o hx with ⟨h1, h2, _⟩ | ⟨h1, h2, h3⟩ <;> rcases hM y o' hy with ⟨g1, g2, _⟩ | ⟨g1, g2, g3⟩
    · exact h'.inj x y o o' k k' h1 g1 hne (h2 ▸ hkx) (g2 ▸ hky) v1 v2
    · have hky' : ν y = some k' := g3 ▸ hky
      rcases known' x o k h1 (h2 ▸ hkx) v1 with ⟨id, o1, k1, q1, q2, q3, q4, q5⟩ | hl
      · rw [← q5]
        exact hok.inj id y o1 o' k1 k' q2 g1 (fun e => by rw [← e, q1] at g2; cases g2) q3 hky' q4 v2
      · have := hok.obLt g1 hky' v2
        omega
    · have hkx' : ν x = some k := h3 ▸ hkx
      rcases known' y o' k' g1 (g2 ▸ hky) v2 with ⟨id, o1, k1, q1, q2, q3, q4, q5⟩ | hl
      · rw [← q5]
        exact hok.inj x id o o1 k k1 h1 q2 (fun e => by rw [e, q1] at h2; cases h2) hkx' q3 v1 q4
      · have := hok.obLt h1 hkx' v1
        omega
    · exact hok.inj x y o o' k k' h1 g1 hne (h3 ▸ hkx) (g3 ▸ hky) v1 v2
  · rw [← hok.below.block b hb hD]
    exact h'.below.block b (Nat.lt_of_lt_of_le hb hok.below.size) (stay b hb hD)
  · rcases hM x o hx with ⟨h1, h2, _⟩ | ⟨h1, h2, h3⟩
    · rcases known' x o k h1 (h2 ▸ hkx) v1 with ⟨id, o1, k1, q1, q2, q3, q4, q5⟩ | hl
      · rw [← q5]
        exact hok.live id o1 k1 q2 q3 q4
      · exact .inr (Nat.le_trans hok.below.size hl)
    · exact hok.live x o k h1 (h3 ▸ hkx) v1
  · exact (h'.ice b o (Nat.lt_of_lt_of_le hb hok.below.size) (stay b hb hD)).trans (hok.ice b o hb hD)

/-- Where a call begins. -/
theorem Ok.enter {B : Gd} {F : Fz} {ν νc : Nu} {M Mc : Hp} {w : World} (hok : Ok B F ν M w) (hsub : ∀ x o, Mc x = some o → M x = some o ∧ νc x = ν x ∧ ∀ el ∈ o.els, ∀ u ∈ el, ∀ y, u.names y → νc y = ν y) : Ok ⟨w, F, own0 νc Mc⟩ F νc Mc w := by
  refine ⟨hok.fz, fun x o hm => ?_, fun x y o o' k k' hx hy hne hkx hky v1 v2 => ?_, ⟨rfl, rfl, rfl, Nat.le_refl _, fun _ _ _ => rfl⟩, fun x o k hx hkx v1 => .inl ⟨x, o, k, hx, hkx, v1, rfl⟩, hok.tab, fun _ _ _ _ => rfl⟩
  · obtain ⟨h1, h2, h3⟩ := hsub x o hm
    obtain ⟨k, hk, hat, hf⟩ := hok.ob x o h1
    refine ⟨k, h2.trans hk, ?_, hf⟩
    rcases hat with ⟨hv, cur, ty, fr, g1, ⟨g2, gty⟩, g3, g4, g5, g6, g7⟩ | hat
    · refine .inl ⟨hv, cur, ty, fr, g1, ⟨g2, gty⟩, g3, g4, g5, g6, fun i el j u a b => ?_⟩
      obtain ⟨hc, v, hv, hr⟩ := g7 i el j u a b
      exact ⟨hc, v, hv, hr.less fun y hy => h3 el (List.mem_of_getElem? a) u (List.mem_of_getElem? b) y hy⟩
    · exact .inr hat
  · obtain ⟨h1, h2, _⟩ := hsub x o hx
    obtain ⟨g1, g2, _⟩ := hsub y o' hy
    exact hok.inj x y o o' k k' h1 g1 hne (h2 ▸ hkx) (g2 ▸ hky) v1 v2

def M0 : Hp := fun _ => none

/-- A call: what it hands back, and what becomes of the objects that it was handed; one may be new, by the number n. -/
def FS (P : Program) (f : Nat) (us : List V) (M : Hp) (n : Nat) (u : V) (es : Eff) : Prop :=
  ∀ w F ν (args : List Value), Ok ⟨w, F, own0 ν M⟩ F ν M w → (∀ id, n ≤ id → ν id = none) → args.length = us.length → (∀ (j : Nat) (v : Value) (u : V), args[j]? = some v → us[j]? = some u → Rel F ν v u) →
    Calls P f args.toArray w fun e w' => ∃ v F' ν', e = .returned v ∧ Ok ⟨w, F, own0 ν M⟩ F' ν' (app es M) w' ∧ Fz.le F F' ∧ (∀ id, id < n → ν' id = ν id) ∧ Rel F' ν' v u

/-- A call of plain values, to a plain value. -/
structure Pu (P : Program) (f : Nat) (us : List V) (u : V) : Prop where
  hus : ∀ x ∈ us, NF x
  hu : NF u
  run : FS P f us M0 0 u []

/-- The same with objects, in any names. -/
structure Fx (P : Program) (f : Nat) (us : List V) (M : Hp) (n : Nat) (u : V) (es : Eff) : Prop where
  hus : ∀ x ∈ us, Old n x
  hM : ∀ x o, M x = some o → x < n ∧ OldO n o
  hes : ∀ e ∈ es, (e.1 < n ∧ (M e.1).isSome) ∨ e.1 = n
  hM' : ∀ x o, app es M x = some o → OldO (n + 1) o
  hu : Old (n + 1) u
  run : FS P f us M n u es

section
variable {P : Program} {σ : Nat → V} {M : Hp} {id : Nat} {dst : Option Nat} {ty : Nat} {pos : String} {after : Array Edge} {guard : Option (Nat × Bool)} {c : Operand} {args : Array Operand} {ts : Array TypeId} {f : Nat} {caps : List V} {u : V}

/-- The arguments, laid together. -/
theorem call_enter {a : Act} {F : Fz} {ν : Nu} {w : World} (hm : Maps a F ν σ) (hc : ev σ c = .fn f caps) (hp : plain P f = true) :
    ∃ vs : List Value, (execOp a.eval ⟨dst, .call ⟨.value c, args, ts⟩, ty, pos, after, guard⟩).run P w = .ok (.enter f vs.toArray) w ∧ vs.length = (args.toList.map (ev σ) ++ caps).length ∧
      ∀ (j : Nat) (v : Value) (u : V), vs[j]? = some v → (args.toList.map (ev σ) ++ caps)[j]? = some u → Rel F ν v u := by
  have hr := ev_rel hm c
  rw [hc] at hr
  generalize hv : a.eval c = v at hr
  cases hr with
  | fn _ cvs _ hl hr =>
    refine ⟨args.toList.map a.eval ++ cvs, ?_, by simp [hl], fun j v u hj hu => ?_⟩
    · simp only [execOp, resolve, hv, Deferred.ofValue]
      simp [invoke, callFunc_plain hp]
    · rw [List.getElem?_append] at hj hu
      simp only [List.length_map] at hj hu
      split at hj
      · rename_i hlt
        rw [if_pos hlt] at hu
        rw [List.getElem?_map] at hj hu
        cases hx : args.toList[j]? with
        | none => simp [hx] at hj
        | some x =>
          simp [hx] at hj hu
          subst hj; subst hu
          exact ev_rel hm x
      · rename_i hlt
        rw [if_neg hlt] at hu
        exact hr _ _ _ hj hu

theorem yl_pu (hc : ev σ c = .fn f caps) (hp : plain P f = true) (h : Pu P f (args.toList.map (ev σ) ++ caps) u) : Yl P ⟨dst, .call ⟨.value c, args, ts⟩, ty, pos, after, guard⟩ σ M id u [] := by
  intro B M' hs a w F ν hok hid hN hm
  obtain ⟨vs, hrun, hl, hr⟩ := call_enter (args := args) (ts := ts) (dst := dst) (ty := ty) (pos := pos) (after := after) (guard := guard) (w := w) hm hc hp
  unfold Oper.wp
  rw [hrun]
  simp only [Oper.upon]
  refine (h.run w F ν0 vs (hok.enter (νc := ν0) (Mc := M0) (fun x o hx => by cases hx)) (fun _ _ => rfl) hl (fun j v u hj hu => (hr j v u hj hu).nf (h.hus u (List.mem_of_getElem? hu)))).mono fun e w' hx => ?_
  obtain ⟨v, F', ν', rfl, ok', hF, _, hrel⟩ := hx
  exact ⟨v, u, M', F', ν, rfl, ⟨rfl, rfl⟩, hok.call (Mc := M0) (fun x o hx => by cases hx) ok' hF (Nu.le_refl _) (fun x o hx => .inr ⟨hx, rfl, rfl⟩), hF, Nu.le_refl _, fun _ _ => rfl, hrel.nf h.hu⟩

theorem yl_fx {es : Eff} (hc : ev σ c = .fn f caps) (hp : plain P f = true) {Mc : Hp} (hM : Sub Mc M) (h : Fx P f (args.toList.map (ev σ) ++ caps) Mc id u es) : Yl P ⟨dst, .call ⟨.value c, args, ts⟩, ty, pos, after, guard⟩ σ M id u es := by
  intro B M' hs a w F ν hok hid hN hm
  obtain ⟨vs, hrun, hl, hr⟩ := call_enter (args := args) (ts := ts) (dst := dst) (ty := ty) (pos := pos) (after := after) (guard := guard) (w := w) hm hc hp
  unfold Oper.wp
  rw [hrun]
  simp only [Oper.upon]
  let νc : Nu := fun x => if x < id then ν x else none
  have lt : ∀ x, x < id → νc x = ν x := fun x hx => if_pos hx
  refine (h.run w F νc vs (hok.enter (νc := νc) (Mc := Mc) (fun x o hx => ⟨hs _ _ (hM _ _ hx), lt x (h.hM x o hx).1, fun el hel u hu y hy => lt y ((h.hM x o hx).2 el hel u hu y hy)⟩)) (fun x hx => if_neg (by omega)) hl
    (fun j v u hj hu => (hr j v u hj hu).less fun y hy => lt y (h.hus u (List.mem_of_getElem? hu) y hy))).mono fun e w' hx => ?_
  obtain ⟨v, F', ν', rfl, ok', hF, hold, hrel⟩ := hx
  let ν'' : Nu := fun x => if x = id then ν' id else ν x
  have hν : Nu.le ν ν'' := fun x k hx => by
    show (if x = id then _ else _) = _
    rw [if_neg (fun e => by rw [e, hid] at hx; cases hx)]
    exact hx
  have agree : ∀ y, y < id + 1 → ν'' y = ν' y := fun y hy => by
    show (if y = id then _ else _) = _
    split
    · rename_i e; rw [e]
    · rename_i e
      rw [hold y (by omega), lt y (by omega)]
  have inId : ∀ x ∈ ids es, x < id + 1 := fun x hx => by
    obtain ⟨e, he, rfl⟩ := List.mem_map.1 hx
    rcases h.hes e he with ⟨h1, _⟩ | h1 <;> omega
  refine ⟨v, u, app es M', F', ν'', rfl, ⟨rfl, rfl⟩, hok.call (Mc := Mc) (fun x o hx => ⟨hs _ _ (hM _ _ hx), lt x (h.hM x o hx).1⟩) ok' hF hν (fun x o hx => ?_), hF, hν, fun x hx => if_neg hx, hrel.less fun y hy => agree y (h.hu y hy)⟩
  by_cases hx' : x ∈ ids es
  · rw [app_at (M' := Mc) hx'] at hx
    exact .inl ⟨hx, agree x (inId x hx'), fun el hel u hu y hy => agree y (h.hM' x o hx el hel u hu y hy)⟩
  · rw [app_other hx'] at hx
    cases hmc : Mc x with
    | none =>
      refine .inr ⟨hx, rfl, if_neg (fun e => ?_)⟩
      subst e
      obtain ⟨k, hk, _⟩ := hok.ob _ _ hx
      rw [hid] at hk
      cases hk
    | some o1 =>
      have e1 := hs _ _ (hM _ _ hmc)
      rw [hx] at e1
      cases e1
      have hc' : app es Mc x = some o := by rw [app_other hx']; exact hmc
      exact .inl ⟨hc', agree x (by have := (h.hM x o hmc).1; omega), fun el hel u hu y hy => agree y (h.hM' x o hc' el hel u hu y hy)⟩
end
end Go.Ka
namespace Go.Ka
open Go.RowKit
variable [Tab]

def thenQ (next : St → Prop) (Q : Exit → St → Prop) : Exit → St → Prop
  | .normal, s => next s
  | e, s => Q e s

inductive Fr where
  | code (c : Code)
  | blk (id : Nat)

def CW (P : Program) (X : Cx) (Q : Exit → St → Prop) : List Fr → Exit → St → Prop
  | [], e, s => Q e s
  | .code c :: k, .normal, s => Awp P X c s (CW P X Q k)
  | .blk _ :: k, .normal, s => CW P X Q k .normal s
  | .blk id :: k, .exit i, s => if i = id then CW P X Q k .normal s else CW P X Q k (.exit i) s
  | _ :: k, e, s => CW P X Q k e s

section
variable {P : Program} {X : Cx} {Q : Exit → St → Prop} {s : St} {k : List Fr} {σ σ' : Nat → V} {M M' : Hp} {n n' : Nat}

theorem Awp.mono {c : Code} {Q' : Exit → St → Prop} (h : Awp P X c s Q) (hq : ∀ e s, Q e s → Q' e s) : Awp P X c s Q' := fun a w F ν hs =>
  wp_mono (h a w F ν hs) fun _ _ _ ⟨s', F', ν', h1, h2⟩ => ⟨s', F', ν', h1, hq _ _ h2⟩

theorem Awp_seq {x y : Code} (h : Awp P X x s (thenQ (fun s => Awp P X y s Q) Q)) : Awp P X (.seq x y) s Q := by
  intro a w F ν hs
  refine wp_seq (wp_mono (h a w F ν hs) fun e a' w' hx => ?_)
  obtain ⟨s', F', ν', h1, h2⟩ := hx
  cases e with
  | normal => exact h2 a' w' F' ν' h1
  | _ => exact ⟨s', F', ν', h1, h2⟩

theorem cw_seq {x y : Code} (h : CW P X Q (.code x :: .code y :: k) .normal s) : CW P X Q (.code (.seq x y) :: k) .normal s := by
  refine Awp_seq (Awp.mono h fun e s' h' => ?_)
  cases e <;> exact h'

theorem cw_block {id : Nat} {c : Code} (h : CW P X Q (.code c :: .blk id :: k) .normal s) : CW P X Q (.code (.block id c) :: k) .normal s := by
  intro a w F ν hs
  refine wp_block (wp_mono (h a w F ν hs) fun e a' w' hx => ?_)
  obtain ⟨s', F', ν', h1, h2⟩ := hx
  cases e with
  | exit i =>
    simp only [CW] at h2
    simp only [Exit.inBlock]
    split
    · rename_i e; rw [if_pos e] at h2; exact ⟨s', F', ν', h1, h2⟩
    · rename_i e; rw [if_neg e] at h2; exact ⟨s', F', ν', h1, h2⟩
  | _ => exact ⟨s', F', ν', h1, h2⟩

theorem cw_skip (h : CW P X Q k .normal s) : CW P X Q (.code .skip :: k) .normal s := fun _ _ F ν hs => wp_skip ⟨s, F, ν, hs, h⟩
theorem cw_label {l : Nat} (h : CW P X Q k .normal s) : CW P X Q (.code (.label l) :: k) .normal s := fun _ _ F ν hs => wp_label ⟨s, F, ν, hs, h⟩
theorem cw_exit {i : Nat} (h : CW P X Q k (.exit i) s) : CW P X Q (.code (.exit i) :: k) .normal s := fun _ _ F ν hs => wp_exit ⟨s, F, ν, hs, h⟩
theorem cw_ret (h : CW P X Q k .ret s) : CW P X Q (.code .ret :: k) .normal s := fun _ _ F ν hs => wp_ret ⟨s, F, ν, hs, h⟩

theorem cw_nil (h : Q .normal s) : CW P X Q [] .normal s := h
theorem cw_blk {i : Nat} (h : CW P X Q k .normal s) : CW P X Q (.blk i :: k) .normal s := h
/-- Leaving: past code, past the block's own end, past another's, out of a loop. -/
theorem cw_xc {c : Code} {i : Nat} (h : CW P X Q k (.exit i) s) : CW P X Q (.code c :: k) (.exit i) s := h
theorem cw_xb {i : Nat} (h : CW P X Q k .normal s) : CW P X Q (.blk i :: k) (.exit i) s := (if_pos rfl).mpr h
theorem cw_xn {i j : Nat} (hn : Nat.beq i j = false) (h : CW P X Q k (.exit i) s) : CW P X Q (.blk j :: k) (.exit i) s := (if_neg (fun e => by subst e; simp at hn)).mpr h
theorem cw_xt {J : St → Prop} {i : Nat} (h : CW P X Q k (.exit i) s) : CW P X (thenQ J (CW P X Q k)) [] (.exit i) s := h
theorem cw_rc {c : Code} (h : CW P X Q k .ret s) : CW P X Q (.code c :: k) .ret s := h
theorem cw_rb {j : Nat} (h : CW P X Q k .ret s) : CW P X Q (.blk j :: k) .ret s := h
theorem cw_rt {J : St → Prop} (h : CW P X Q k .ret s) : CW P X (thenQ J (CW P X Q k)) [] .ret s := h
theorem cw_rn (h : Q .ret s) : CW P X Q [] .ret s := h

theorem cw_cond {c : Operand} {x y : Code} {b : Bool} (hc : ev s.σ c = .val (.bool b)) (h1 : b = true → CW P X Q (.code x :: k) .normal s) (h2 : b = false → CW P X Q (.code y :: k) .normal s) : CW P X Q (.code (.cond c x y) :: k) .normal s := by
  intro a w F ν hs
  have hr := ev_rel hs.maps c
  rw [hc] at hr
  have e := rel_val hr
  cases b with
  | true => exact wp_cond_true e (h1 rfl a w F ν hs)
  | false => exact wp_cond_false e (h2 rfl a w F ν hs)
/-- A branch that is decided. -/
theorem cw_tk {c : Operand} {x y : Code} {b : Bool} (hc : ev s.σ c = .val (.bool b)) (hb : b = true) (h1 : CW P X Q (.code x :: k) .normal s) : CW P X Q (.code (.cond c x y) :: k) .normal s := cw_cond hc (fun _ => h1) (fun h => by rw [hb] at h; cases h)
theorem cw_fk {c : Operand} {x y : Code} {b : Bool} (hc : ev s.σ c = .val (.bool b)) (hb : b = false) (h1 : CW P X Q (.code y :: k) .normal s) : CW P X Q (.code (.cond c x y) :: k) .normal s := cw_cond hc (fun h => by rw [hb] at h; cases h) (fun _ => h1)
theorem cw_ct {c : Operand} {x y : Code} (hc : ev s.σ c = .val (.bool true)) (h1 : CW P X Q (.code x :: k) .normal s) : CW P X Q (.code (.cond c x y) :: k) .normal s := cw_cond hc (fun _ => h1) (fun h => by cases h)
theorem cw_cf {c : Operand} {x y : Code} (hc : ev s.σ c = .val (.bool false)) (h1 : CW P X Q (.code y :: k) .normal s) : CW P X Q (.code (.cond c x y) :: k) .normal s := cw_cond hc (fun h => by cases h) (fun _ => h1)

/-- Slots, written out. -/
def ls : List (Nat × V) → Nat → V
  | [], _ => .any
  | p :: r, t => bif Nat.beq t p.1 then p.2 else ls r t
/-- Objects, written out. -/
def hl : List (Nat × Ob) → Hp
  | [], _ => none
  | p :: r, t => bif Nat.beq t p.1 then some p.2 else hl r t

theorem ls_cons (p : Nat × V) (r : List (Nat × V)) (t : Nat) : ls (p :: r) t = if t = p.1 then p.2 else ls r t := by
  show (bif Nat.beq t p.1 then _ else _) = _
  by_cases h : t = p.1
  · rw [h]; simp
  · have : Nat.beq t p.1 = false := by
      cases hb : Nat.beq t p.1 with
      | false => rfl
      | true => exact absurd (Nat.eq_of_beq_eq_true hb) h
    simp [this, h]
theorem hl_cons (p : Nat × Ob) (r : List (Nat × Ob)) (t : Nat) : hl (p :: r) t = if t = p.1 then some p.2 else hl r t := by
  show (bif Nat.beq t p.1 then _ else _) = _
  by_cases h : t = p.1
  · rw [h]; simp
  · have : Nat.beq t p.1 = false := by
      cases hb : Nat.beq t p.1 with
      | false => rfl
      | true => exact absurd (Nat.eq_of_beq_eq_true hb) h
    simp [this, h]

/-- The region's own numbers. -/
def G0 (P : Program) (nt : Nat) (ops : Array Oper) (n : Nat) : Rg := ⟨P, nt, ops, n, fun _ => [], fun _ => none⟩

/-- A region in the text's order. -/
theorem cw_rg {id nt n1 : Nat} {ops : Array Oper} {ds : List Yd} (hnt : X.nt = nt) (hn : n + ops.size = n1) (h : Lx (G0 P nt ops n) ops.toList 0 σ M ds σ' M') (hk : CW P X Q k .normal ⟨σ', M', n1⟩) : CW P X Q (.code (.region id ops false) :: k) .normal ⟨σ, M, n⟩ := by
  subst hn
  intro a w F ν hsim
  refine wp_region ?_
  rw [List.range_eq_range']
  have := lx_region (G := G0 P nt ops n) (X := X) (R := fun e a' w' => ∃ s' F' ν', Sim X s' a' w' F' ν' ∧ CW P X Q k e s') (σ' := σ') (M' := M') hnt
    (fun a w F ν hs => ⟨_, F, ν, hs, hk⟩) ops.toList 0 σ M ds a w F ν (by simp [G0]) h hsim (Nat.zero_le _)
  simpa [G0] using this

/-- A region that draws its order. -/
theorem cw_ra {id nt n1 : Nat} {ops : Array Oper} {ds : List Yd} (olds : List Nat) (T H : List (Nat × List Nat)) (bar : List Nat) (hnt : X.nt = nt) (hn : n + ops.size = n1) (hm : P.follows .mixedOrders = true) (hst : stat ops T H bar olds.length = true)
    (h1 : (olds.all fun x => Nat.blt x n) = true) (h2 : olds.Nodup) (h : Lx (anyG P nt ops n olds T H bar) ops.toList 0 σ M ds σ' M') (hk : CW P X Q k .normal ⟨σ', M', n1⟩) : CW P X Q (.code (.region id ops true) :: k) .normal ⟨σ, M, n⟩ := by
  subst hn
  have h1 : ∀ x ∈ olds, x < n := fun x hx => by simpa using List.all_eq_true.1 h1 x hx
  intro a w F ν hsim
  refine wp_region_any hm ?_
  have hlex := An_lex h1 h2 hst (fun k d hd => by simpa using h.tok k d hd) ops.toList ds 0 σ M (Array.replicate ops.size false) (by simp) (by simp) h (by simp) (Nat.zero_le _) (fun k hk => by simp [hk])
  exact An_sound (G := anyG P nt ops n olds T H bar) (X := X) (R := fun e a' w' => ∃ s' F' ν', Sim X s' a' w' F' ν' ∧ CW P X Q k e s') hnt
    (fun σ' M' a w F ν hs hq => by obtain ⟨rfl, rfl⟩ := hq; exact ⟨_, F, ν, hs, hk⟩) ops.size (Array.replicate ops.size false) σ M a _ F ν (by simp [anyG]) hlex hsim.ok.drewOn (fun k _ _ => hsim.nxt _ (Nat.le_add_right _ _)) (fun id hid => hsim.nxt _ (Nat.le_trans (Nat.le_add_right _ _) hid)) hsim.maps hsim.size hsim.df hsim.leF hsim.old hsim.le

/-- A state may be told otherwise, where code follows. -/
def To (X : Cx) (s s' : St) : Prop := ∀ a w F ν, Sim X s a w F ν → ∃ F' ν', Sim X s' a w F' ν'
theorem To.refl (X : Cx) (s : St) : To X s s := fun _ _ F ν h => ⟨F, ν, h⟩
theorem To.trans {X : Cx} {s s' s'' : St} (h : To X s s') (h' : To X s' s'') : To X s s'' := fun a w F ν hs => by
  obtain ⟨F', ν', h1⟩ := h a w F ν hs
  exact h' a w F' ν' h1
theorem cw_to {c : Code} {s' : St} (h : To X s s') (hk : CW P X Q (.code c :: k) .normal s') : CW P X Q (.code c :: k) .normal s := by
  intro a w F ν hs
  obtain ⟨F', ν', hs'⟩ := h a w F ν hs
  exact hk a w F' ν' hs'

theorem cw_loop {c : Code} (I : Nat → St → Prop) (g : Nat) (h0 : I g s) (round : ∀ g s, I g s → CW P X (thenQ (fun s' => ∃ g' s'', g' < g ∧ To X s' s'' ∧ I g' s'') (CW P X Q k)) [.code c] .normal s) : CW P X Q (.code (.loop c) :: k) .normal s := by
  intro a w F ν hs
  refine wp_loop_ghost (fun g a w => ∃ s F ν, Sim X s a w F ν ∧ I g s) g ⟨s, F, ν, hs, h0⟩ fun g a w hI => ?_
  obtain ⟨s1, F1, ν1, hs1, hI1⟩ := hI
  refine wp_mono ((round g s1 hI1) a w F1 ν1 hs1) fun e a' w' hx => ?_
  obtain ⟨s', F', ν', h1, h2⟩ := hx
  cases e with
  | normal =>
    obtain ⟨g', s'', hlt, hto, hI'⟩ := h2
    obtain ⟨F'', ν'', h1⟩ := hto _ _ _ _ h1
    exact ⟨g', hlt, s'', F'', ν'', h1, hI'⟩
  | _ => exact ⟨s', F', ν', h1, h2⟩

/-- A cut: what holds behind a piece of code, and what follows from that. -/
theorem cw_cut {c : Code} (J : St → Prop) (h : CW P X (thenQ (fun s' => ∃ s'', To X s' s'' ∧ J s'') (CW P X Q k)) [.code c] .normal s) (h2 : ∀ s, J s → CW P X Q k .normal s) : CW P X Q (.code c :: k) .normal s := by
  intro a w F ν hs
  refine wp_mono ((show Awp P X c s _ from h) a w F ν hs) fun e a' w' hx => ?_
  obtain ⟨s', F', ν', h1, h2'⟩ := hx
  cases e with
  | normal =>
    obtain ⟨s'', hto, hJ⟩ := h2'
    obtain ⟨F'', ν'', h1⟩ := hto _ _ _ _ h1
    exact ⟨s'', F'', ν'', h1, h2 s'' hJ⟩
  | _ => exact ⟨s', F', ν', h1, h2'⟩

/-! A region of which the outcome alone is told. -/
def dstL (os : List Oper) : List Nat := os.filterMap (·.dst)
def mix (D : List Nat) (L : List (Nat × V)) (σ : Nat → V) : Nat → V := fun x => bif D.elem x then ls L x else σ x
def Agree (σ : Nat → V) : List (Nat × V) → Prop
  | [] => True
  | p :: r => σ p.1 = p.2 ∧ Agree σ r

theorem Lx.other {G : Rg} : ∀ {os : List Oper} {i : Nat} {σ σ' : Nat → V} {M M' : Hp} {ds : List Yd}, Lx G os i σ M ds σ' M' → ∀ t, t ∉ dstL os → σ' t = σ t := by
  intro os
  induction os with
  | nil =>
    intro i σ σ' M M' ds h t _
    cases ds with
    | nil => rw [h.1]
    | cons => exact h.elim
  | cons o os ih =>
    intro i σ σ' M M' ds h t ht
    cases ds with
    | nil => exact h.elim
    | cons d ds =>
      obtain ⟨_, _, _, h4⟩ := h
      have ho : o.dst ≠ some t := fun e => by simp [dstL, e] at ht
      rw [ih h4 t (by
        cases hd : o.dst with
        | none => simpa [dstL, hd] using ht
        | some x => simp [dstL, hd] at ht ⊢; exact ht.2), upd_other ho]

theorem Sim.mix {σ1 : Nat → V} {os : List Oper} {D : List Nat} {L : List (Nat × V)} {a : Act} {w : World} {F : Fz} {ν : Nu} (hD : dstL os = D) (ho : ∀ t, t ∉ dstL os → σ1 t = σ t) (hL : Agree σ1 L) (hs : Sim X ⟨σ1, M, n⟩ a w F ν) : Sim X ⟨mix D L σ, M, n⟩ a w F ν := by
  refine ⟨hs.ok, hs.nxt, fun t => ?_, hs.size, hs.df, hs.leF, hs.old, hs.le⟩
  show Rel F ν _ (bif D.elem t then ls L t else σ t)
  have hm := hs.maps t
  dsimp only at hm
  by_cases h : t ∈ D
  · have e : D.elem t = true := by simpa [List.elem_eq_contains] using h
    rw [e]
    show Rel F ν _ (ls L t)
    clear hD ho
    induction L with
    | nil => exact .any _
    | cons p r ih =>
      rw [ls_cons]
      split
      · rename_i e; rw [← hL.1, ← e]; exact hm
      · exact ih hL.2
  · have e : D.elem t = false := by
      cases hb : D.elem t with
      | false => rfl
      | true => exact absurd (by simpa [List.elem_eq_contains] using hb) h
    rw [e]
    show Rel F ν _ (σ t)
    rw [← ho t (by rw [hD]; exact h)]
    exact hm

theorem cw_rl {id nt n1 : Nat} {ops : Array Oper} {D : List Nat} (L : List (Nat × V)) (hnt : X.nt = nt) (hn : n + ops.size = n1) (hD : dstL ops.toList = D) (h : ∃ ds σ', Lx (G0 P nt ops n) ops.toList 0 σ M ds σ' M' ∧ Agree σ' L) (hk : CW P X Q k .normal ⟨mix D L σ, M', n1⟩) : CW P X Q (.code (.region id ops false) :: k) .normal ⟨σ, M, n⟩ := by
  subst hn
  obtain ⟨ds, σ1, h, hL⟩ := h
  have ho := h.other
  intro a w F ν hsim
  refine wp_region ?_
  rw [List.range_eq_range']
  have := lx_region (G := G0 P nt ops n) (X := X) (R := fun e a' w' => ∃ s' F' ν', Sim X s' a' w' F' ν' ∧ CW P X Q k e s') (σ' := σ1) (M' := M') hnt
    (fun a w F ν hs => ⟨_, F, ν, hs.mix hD ho hL, hk⟩) ops.toList 0 σ M ds a w F ν (by simp [G0]) h hsim (Nat.zero_le _)
  simpa [G0] using this

theorem cw_ral {id nt n1 : Nat} {ops : Array Oper} {D : List Nat} (L : List (Nat × V)) (olds : List Nat) (T H : List (Nat × List Nat)) (bar : List Nat) (hnt : X.nt = nt) (hn : n + ops.size = n1) (hD : dstL ops.toList = D) (hm : P.follows .mixedOrders = true) (hst : stat ops T H bar olds.length = true)
    (h1 : (olds.all fun x => Nat.blt x n) = true) (h2 : olds.Nodup) (h : ∃ ds σ', Lx (anyG P nt ops n olds T H bar) ops.toList 0 σ M ds σ' M' ∧ Agree σ' L) (hk : CW P X Q k .normal ⟨mix D L σ, M', n1⟩) : CW P X Q (.code (.region id ops true) :: k) .normal ⟨σ, M, n⟩ := by
  subst hn
  obtain ⟨ds, σ1, h, hL⟩ := h
  have ho := h.other
  have h1 : ∀ x ∈ olds, x < n := fun x hx => by simpa using List.all_eq_true.1 h1 x hx
  intro a w F ν hsim
  refine wp_region_any hm ?_
  have hlex := An_lex h1 h2 hst (fun k d hd => by simpa using h.tok k d hd) ops.toList ds 0 σ M (Array.replicate ops.size false) (by simp) (by simp) h (by simp) (Nat.zero_le _) (fun k hk => by simp [hk])
  exact An_sound (G := anyG P nt ops n olds T H bar) (X := X) (R := fun e a' w' => ∃ s' F' ν', Sim X s' a' w' F' ν' ∧ CW P X Q k e s') hnt
    (fun σ' M' a w F ν hs hq => by obtain ⟨rfl, rfl⟩ := hq; exact ⟨_, F, ν, hs.mix hD ho hL, hk⟩) ops.size (Array.replicate ops.size false) σ M a _ F ν (by simp [anyG]) hlex hsim.ok.drewOn (fun k _ _ => hsim.nxt _ (Nat.le_add_right _ _)) (fun id hid => hsim.nxt _ (Nat.le_trans (Nat.le_add_right _ _) hid)) hsim.maps hsim.size hsim.df hsim.leF hsim.old hsim.le
end

/-! ### Telling a state otherwise: other names, less known, objects without a block -/
/-- What reads as u reads as u', by new names: by ρ a new name's old one; D: the new names that stand for something; Z: those of new objects without a block. -/
def Tr (ρ : Nat → Nat) (D Z : List Nat) (u u' : V) : Prop := ∀ F ν ν' v, (∀ y ∈ D, ν' y = ν (ρ y)) → (∀ y ∈ Z, ∃ k, ν' y = some k ∧ k.vt = true) → Rel F ν v u → Rel F ν' v u'

inductive Trs (ρ : Nat → Nat) (D Z : List Nat) : List V → List V → Prop
  | nil : Trs ρ D Z [] []
  | cons {u u' : V} {us us' : List V} (h : Tr ρ D Z u u') (hs : Trs ρ D Z us us') : Trs ρ D Z (u :: us) (u' :: us')

section
variable {ρ : Nat → Nat} {D Z : List Nat}
theorem Tr.nf {u : V} (h : NF u) : Tr ρ D Z u u := fun _ _ _ _ _ _ hr => hr.nf h
theorem Tr.any {u : V} : Tr ρ D Z u .any := fun _ _ _ v _ _ _ => .any v
theorem Tr.own {i j a n : Nat} (h : (D.elem j && Nat.beq (ρ j) i) = true) : Tr ρ D Z (.own i a n) (.own j a n) := fun F ν ν' v h1 _ hr => by
  simp only [Bool.and_eq_true, List.elem_eq_contains, List.contains_iff_mem] at h
  have e := Nat.eq_of_beq_eq_true h.2
  cases hr with
  | own _ _ _ c A k hk hc hm hA hB => exact .own j a n c A k ((h1 j h.1).trans (e ▸ hk)) hc hm hA hB
theorem Tr.ownE {i j a n n' : Nat} (h : (D.elem j && Nat.beq (ρ j) i) = true) (e : n = n') : Tr ρ D Z (.own i a n) (.own j a n') := by subst e; exact Tr.own h
theorem Tr.ptr {i j a n : Nat} (h : (D.elem j && Nat.beq (ρ j) i) = true) : Tr ρ D Z (.ptr i a n) (.ptr j a n) := fun F ν ν' v h1 _ hr => by
  simp only [Bool.and_eq_true, List.elem_eq_contains, List.contains_iff_mem] at h
  have e := Nat.eq_of_beq_eq_true h.2
  cases hr with
  | ptr _ _ _ k hk => exact .ptr j a n k ((h1 j h.1).trans (e ▸ hk))
theorem Tr.nilArr : Tr ρ D Z (.val (.slice none 0 0)) (.arr []) := fun F ν ν' v _ _ h => by
  cases h
  exact .arr none 0 0 0 [] (fun _ _ => default) rfl (Nat.le_refl _) (Nat.zero_le _) (fun i el h => by simp at h) (fun i el j u h => by simp at h) (fun h => absurd rfl h) (fun i el j u h => by simp at h)
theorem Tr.nilOwn {j : Nat} (h : Z.elem j = true) : Tr ρ D Z (.val (.slice none 0 0)) (.own j 0 0) := fun F ν ν' v _ h2 hr => by
  cases hr
  obtain ⟨k, hk, _⟩ := h2 j (by simpa [List.elem_eq_contains] using h)
  exact .own j 0 0 0 none k hk (Nat.le_refl _) (Nat.zero_le _) (fun h => absurd rfl h) (.inl rfl)
theorem Tr.nilOwt {j T : Nat} (h : Z.elem j = true) : Tr ρ D Z (.val (.slice none 0 0)) (.owt j 0 T) := fun F ν ν' v _ h2 hr => by
  cases hr
  obtain ⟨k, hk, hv⟩ := h2 j (by simpa [List.elem_eq_contains] using h)
  exact .owt j 0 0 T none k hk (Nat.le_refl _) (Nat.zero_le _) (fun h => absurd rfl h) (.inl rfl) (fun h => by rw [hv] at h; cases h)
theorem Tr.owt {i j n T : Nat} (h : (D.elem j && Nat.beq (ρ j) i) = true) : Tr ρ D Z (.owt i n T) (.owt j n T) := fun F ν ν' v h1 _ hr => by
  simp only [Bool.and_eq_true, List.elem_eq_contains, List.contains_iff_mem] at h
  have e := Nat.eq_of_beq_eq_true h.2
  cases hr with
  | owt _ _ c _ A k hk hc hm hA hB hT => exact .owt j n c T A k ((h1 j h.1).trans (e ▸ hk)) hc hm hA hB hT
theorem Tr.sp {i j T : Nat} (h : (D.elem j && Nat.beq (ρ j) i) = true) : Tr ρ D Z (.sp i T) (.sp j T) := fun F ν ν' v h1 _ hr => by
  simp only [Bool.and_eq_true, List.elem_eq_contains, List.contains_iff_mem] at h
  have e := Nat.eq_of_beq_eq_true h.2
  cases hr with
  | sp _ _ k p hk hT hp => exact .sp j T k p ((h1 j h.1).trans (e ▸ hk)) hT hp

theorem Trs.len {us us' : List V} (h : Trs ρ D Z us us') : us.length = us'.length := by
  induction h with
  | nil => rfl
  | cons _ _ ih => simp [ih]
theorem Trs.at {us us' : List V} (h : Trs ρ D Z us us') : ∀ (j : Nat) (u' : V), us'[j]? = some u' → ∃ u, us[j]? = some u ∧ Tr ρ D Z u u' := by
  induction h with
  | nil => intro j u' hj; simp at hj
  | cons h hs ih =>
    intro j u' hj
    cases j with
    | zero => simp at hj; subst hj; exact ⟨_, rfl, h⟩
    | succ j => exact ih j u' (by simpa using hj)
theorem Trs.append {us us' vs vs' : List V} (h : Trs ρ D Z us us') (h2 : Trs ρ D Z vs vs') : Trs ρ D Z (us ++ vs) (us' ++ vs') := by
  induction h with
  | nil => exact h2
  | cons h _ ih => exact .cons h ih
theorem Trs.nfs {us : List V} (h : ∀ u ∈ us, NF u) : Trs ρ D Z us us := by
  induction us with
  | nil => exact .nil
  | cons u r ih => exact .cons (Tr.nf (h u (by simp))) (ih fun x hx => h x (by simp [hx]))
theorem Tr.agg {us us' : List V} (h : Trs ρ D Z us us') (hc : (us'.all V.cell) = true) : Tr ρ D Z (.agg us) (.agg us') := fun F ν ν' v h1 h2 hr => by
  cases hr with
  | agg vs _ hl hce hr =>
    refine .agg vs us' (hl.trans h.len) (fun j u hj => List.all_eq_true.1 hc u (List.mem_of_getElem? hj)) fun j v u hv hj => ?_
    obtain ⟨u0, h0, hw⟩ := h.at j u hj
    exact hw _ _ _ _ h1 h2 (hr j v u0 hv h0)
theorem Tr.tup {us us' : List V} (h : Trs ρ D Z us us') : Tr ρ D Z (.tup us) (.tup us') := fun F ν ν' v h1 h2 hr => by
  cases hr with
  | tup vs _ hl hr =>
    refine .tup vs us' (hl.trans h.len) fun j v u hv hj => ?_
    obtain ⟨u0, h0, hw⟩ := h.at j u hj
    exact hw _ _ _ _ h1 h2 (hr j v u0 hv h0)
theorem Tr.fn {f : Nat} {us us' : List V} (h : Trs ρ D Z us us') : Tr ρ D Z (.fn f us) (.fn f us') := fun F ν ν' v h1 h2 hr => by
  cases hr with
  | fn _ vs _ hl hr =>
    refine .fn f vs us' (hl.trans h.len) fun j v u hv hj => ?_
    obtain ⟨u0, h0, hw⟩ := h.at j u hj
    exact hw _ _ _ _ h1 h2 (hr j v u0 hv h0)

/-- Objects, by new names. -/
def TrO (ρ : Nat → Nat) (D Z : List Nat) (o o' : Ob) : Prop := o'.sz = o.sz ∧ o'.els.length = o.els.length ∧ ∀ (i : Nat) (el el' : List V), o.els[i]? = some el → o'.els[i]? = some el' → el'.length = el.length ∧ ∀ (j : Nat) (u u' : V), el[j]? = some u → el'[j]? = some u' → Tr ρ D Z u u' ∧ u'.cell = true
theorem TrO.nf {o : Ob} (h : ∀ el ∈ o.els, ∀ u ∈ el, NF u ∧ u.cell = true) : TrO ρ D Z o o := ⟨rfl, rfl, fun i el el' h1 h2 => by
  rw [h1] at h2
  cases h2
  refine ⟨rfl, fun j u u' g1 g2 => ?_⟩
  rw [g1] at g2
  cases g2
  obtain ⟨q1, q2⟩ := h el (List.mem_of_getElem? h1) u (List.mem_of_getElem? g1)
  exact ⟨Tr.nf q1, q2⟩⟩
theorem fix0 : ∀ y, y < 0 → ρ y = y ∧ y ∈ D := fun _ h => absurd h (Nat.not_lt_zero _)
theorem TrO.cell {us us' : List V} {sz : Nat} (h : Trs ρ D Z us us') (hc : (us'.all V.cell) = true) : TrO ρ D Z ⟨[us], sz⟩ ⟨[us'], sz⟩ := ⟨rfl, rfl, fun i el el' h1 h2 => by
  cases i <;> simp at h1 h2
  subst h1; subst h2
  refine ⟨h.len.symm, fun j u u' g1 g2 => ?_⟩
  obtain ⟨u0, q1, q2⟩ := h.at j u' g2
  rw [g1] at q1
  cases q1
  exact ⟨q2, List.all_eq_true.1 hc u' (List.mem_of_getElem? g2)⟩⟩

/-- New slots out of old ones. -/
def TrL (ρ : Nat → Nat) (D Z : List Nat) (σ : Nat → V) : List (Nat × V) → Prop
  | [] => True
  | p :: r => Tr ρ D Z (σ p.1) p.2 ∧ TrL ρ D Z σ r
/-- New objects out of old ones. -/
def TrH (ρ : Nat → Nat) (D Z : List Nat) (M : Hp) : List (Nat × Ob) → Prop
  | [] => True
  | p :: r => ((Z.elem p.1 = true ∧ p.2.els = []) ∨ (D.elem p.1 = true ∧ ∃ o, M (ρ p.1) = some o ∧ TrO ρ D Z o p.2)) ∧ TrH ρ D Z M r

theorem TrL.maps {σ : Nat → V} {L : List (Nat × V)} (h : TrL ρ D Z σ L) {a : Act} {F : Fz} {ν ν' : Nu} (h1 : ∀ y ∈ D, ν' y = ν (ρ y)) (h2 : ∀ y ∈ Z, ∃ k, ν' y = some k ∧ k.vt = true) (hm : Maps a F ν σ) : Maps a F ν' (ls L) := by
  intro t
  induction L with
  | nil => exact .any _
  | cons p r ih =>
    rw [ls_cons]
    split
    · rename_i e; subst e; exact h.1 _ _ _ _ h1 h2 (hm _)
    · exact ih h.2
theorem TrH.at {M : Hp} {H : List (Nat × Ob)} (h : TrH ρ D Z M H) {x : Nat} {o' : Ob} (hx : hl H x = some o') : (x ∈ Z ∧ o'.els = []) ∨ (x ∈ D ∧ ∃ o, M (ρ x) = some o ∧ TrO ρ D Z o o') := by
  induction H with
  | nil => cases hx
  | cons p r ih =>
    rw [hl_cons] at hx
    split at hx
    · rename_i e
      subst e
      cases hx
      rcases h.1 with ⟨hz, h1⟩ | ⟨hd, h1⟩
      · exact .inl ⟨by simpa [List.elem_eq_contains] using hz, h1⟩
      · exact .inr ⟨by simpa [List.elem_eq_contains] using hd, h1⟩
    · exact ih h.2 hx

/-- A state told by new names. N: the numbers below which what is handed in keeps its own. -/
theorem to_ren {X : Cx} {σ : Nat → V} {M : Hp} {n n' N : Nat} (ρ : Nat → Nat) (D Z : List Nat) {L : List (Nat × V)} {H : List (Nat × Ob)} (hN : X.n = N) (hNn : Nat.ble N n' = true) (hD : (D.all fun y => Nat.blt y n' && (Nat.ble N y || Nat.beq (ρ y) y) && !Z.elem y) = true) (hZ : (Z.all fun y => Nat.blt y n' && Nat.ble N y) = true)
    (hfix : ∀ y, y < N → ρ y = y ∧ y ∈ D) (hinj : (D.map ρ).Nodup) (hL : TrL ρ D Z σ L) (hH : TrH ρ D Z M H) : To X ⟨σ, M, n⟩ ⟨ls L, hl H, n'⟩ := by
  intro a w F ν hs
  subst hN
  have hNn : X.n ≤ n' := Nat.ble_eq.mp hNn
  have hD' : ∀ y ∈ D, y < n' ∧ (X.n ≤ y ∨ ρ y = y) ∧ y ∉ Z := fun y hy => by
    have := List.all_eq_true.1 hD y hy
    simp only [Bool.and_eq_true, Bool.or_eq_true, Nat.blt_eq, Nat.ble_eq, Bool.not_eq_true', List.elem_eq_contains] at this
    obtain ⟨⟨h1, h2⟩, h3⟩ := this
    exact ⟨h1, h2.imp id Nat.eq_of_beq_eq_true, by simpa using h3⟩
  have hZ' : ∀ y ∈ Z, y < n' ∧ X.n ≤ y := fun y hy => by
    have := List.all_eq_true.1 hZ y hy
    simpa only [Bool.and_eq_true, Nat.blt_eq, Nat.ble_eq] using this
  -- the new naming
  let zsz : Nat → Nat := fun y => ((hl H y).map (·.sz)).getD 0
  let ν' : Nu := fun y => if y ∈ D then ν (ρ y) else if y ∈ Z then some ⟨0, zsz y, 0, true, 0⟩ else none
  have h1 : ∀ y ∈ D, ν' y = ν (ρ y) := fun y hy => if_pos hy
  have h2 : ∀ y ∈ Z, ν' y = some ⟨0, zsz y, 0, true, 0⟩ := fun y hy => by
    show (if y ∈ D then _ else _) = _
    rw [if_neg (fun h => (hD' y h).2.2 hy), if_pos hy]
  have h2' : ∀ y ∈ Z, ∃ k, ν' y = some k ∧ k.vt = true := fun y hy => ⟨_, h2 y hy, rfl⟩
  have inj : ∀ x y, x ∈ D → y ∈ D → ρ x = ρ y → x = y := fun x y hx hy e => by
    have hp := List.pairwise_iff_getElem.1 hinj
    obtain ⟨i, hi, rfl⟩ := List.getElem_of_mem hx
    obtain ⟨j, hj, rfl⟩ := List.getElem_of_mem hy
    rcases Nat.lt_trichotomy i j with h | h | h
    · exact absurd (by rw [List.getElem_map, List.getElem_map]; exact e) (hp i j (by simpa using hi) (by simpa using hj) h)
    · subst h; rfl
    · exact absurd (by rw [List.getElem_map, List.getElem_map]; exact e.symm) (hp j i (by simpa using hj) (by simpa using hi) h)
  have vt : ∀ {x : Nat} {k : Blk} {o' : Ob}, hl H x = some o' → ν' x = some k → k.vt = false → x ∈ D ∧ ν (ρ x) = some k ∧ ∃ o, M (ρ x) = some o := fun {x k o'} hx hk hv => by
    rcases hH.at hx with ⟨hz, _⟩ | ⟨hd, o, ho, _⟩
    · rw [h2 x hz] at hk
      cases hk
      cases hv
    · exact ⟨hd, h1 x hd ▸ hk, o, ho⟩
  refine ⟨F, ν', ⟨hs.ok.fz, fun x o' hx => ?_, fun x y o o' k k' hx hy hne hkx hky v1 v2 => ?_, hs.ok.below, fun x o k hx hkx v1 => ?_, hs.ok.tab, hs.ok.ice⟩, fun y hy => ?_, hL.maps h1 h2' hs.maps, hs.size, hs.df, hs.leF, fun y hy => ?_, hNn⟩
  · rcases hH.at hx with ⟨hz, he⟩ | ⟨hd, o, ho, hsz, hlen, hel⟩
    · refine ⟨_, h2 x hz, .inr ⟨rfl, rfl, ?_, he⟩, fun h => by cases h⟩
      show zsz x = o'.sz
      show ((hl H x).map (·.sz)).getD 0 = _
      simp only at hx
      rw [hx]
      rfl
    · obtain ⟨k, hk, hat, hf⟩ := hs.ok.ob _ _ ho
      refine ⟨k, (h1 x hd).trans hk, ?_, hf⟩
      rcases hat with ⟨hv, cur, ty, fr, g1, ⟨g2, gty⟩, g3, g4, g5, g6, g7⟩ | ⟨hv, g1, g2, g3⟩
      · have old : ∀ (i : Nat) (el' : List V), o'.els[i]? = some el' → ∃ el, o.els[i]? = some el := fun i el' hi => by
          have := (List.getElem?_eq_some_iff.1 hi).1
          exact ⟨o.els[i]'(by omega), List.getElem?_eq_getElem (by omega)⟩
        refine .inl ⟨hv, cur, ty, fr, g1, ⟨g2, gty⟩, g3, g4.trans hsz.symm, fun i el' hi => ?_, by rw [hlen, hsz]; exact g6, fun i el' j u' hi hj => ?_⟩
        · obtain ⟨el, he⟩ := old i el' hi
          rw [(hel i el el' he hi).1, hsz]
          exact g5 i el he
        · obtain ⟨el, he⟩ := old i el' hi
          obtain ⟨q1, q2⟩ := hel i el el' he hi
          obtain ⟨u, hu⟩ := get_of_length q1.symm hj
          obtain ⟨r1, r2⟩ := q2 j u u' hu hj
          obtain ⟨_, v, hv, hr⟩ := g7 i el j u he hu
          exact ⟨r2, v, by rw [hsz]; exact hv, r1 _ _ _ _ h1 h2' hr⟩
      · exact .inr ⟨hv, g1, g2.trans hsz.symm, List.eq_nil_of_length_eq_zero (by rw [hlen, g3]; rfl)⟩
  · obtain ⟨d1, e1, o1, m1⟩ := vt hx hkx v1
    obtain ⟨d2, e2, o2, m2⟩ := vt hy hky v2
    exact hs.ok.inj _ _ _ _ _ _ m1 m2 (fun e => hne (inj x y d1 d2 e)) e1 e2 v1 v2
  · obtain ⟨d1, e1, o1, m1⟩ := vt hx hkx v1
    exact hs.ok.live _ _ _ m1 e1 v1
  · show (if y ∈ D then _ else _) = _
    dsimp only at hy
    rw [if_neg (fun h => by have := (hD' y h).1; omega), if_neg (fun h => by have := (hZ' y h).1; omega)]
  · obtain ⟨e, hd⟩ := hfix y hy
    rw [h1 y hd, e]
    exact hs.old y hy
end
end Go.Ka
namespace Go.Ka
open Go.RowKit
variable [Tab]

/-! ### Written no more -/
/-- Object i's cells stand fast. -/
structure Ice (F F' : Fz) (ν : Nu) (i : Nat) (o : Ob) : Prop where
  le : Fz.le F F'
  at' : ∃ k, ν i = some k ∧ k.sz = o.sz ∧ (∀ (x : Nat) (el : List V), o.els[x]? = some el → el.length = o.sz) ∧
    ∀ (x : Nat) (el : List V) (j : Nat) (u : V), o.els[x]? = some el → el[j]? = some u → u.cell = true ∧ ∃ v, F' k.b (x * o.sz + j) = some v ∧ Rel F' ν v u
def Fz2 (i : Nat) (o : Ob) (u u' : V) : Prop := ∀ F F' ν v, Ice F F' ν i o → Rel F ν v u → Rel F' ν v u'
inductive Fzs (i : Nat) (o : Ob) : List V → List V → Prop
  | nil : Fzs i o [] []
  | cons {u u' : V} {us us' : List V} (h : Fz2 i o u u') (hs : Fzs i o us us') : Fzs i o (u :: us) (u' :: us')

section
variable {i : Nat} {o : Ob}
theorem Fz2.keep {u : V} : Fz2 i o u u := fun _ _ _ _ h hr => hr.mono h.le (Nu.le_refl _)
theorem Fz2.any {u : V} : Fz2 i o u .any := fun _ _ _ v _ _ => .any v
theorem Fz2.own {a n : Nat} (hlen : a + n ≤ o.els.length) : Fz2 i o (.own i a n) (.arr ((o.els.drop a).take n)) := fun F F' ν v h hr => by
  obtain ⟨k, hk, hsz, hl, hat⟩ := h.at'
  cases hr with
  | own _ _ _ c A k' hk' hc hm hA hB =>
    rw [hk] at hk'
    cases hk'
    have get : ∀ (x : Nat) (el : List V), ((o.els.drop a).take n)[x]? = some el → o.els[a + x]? = some el := fun x el hx => by
      rw [List.getElem?_take] at hx
      split at hx
      · rwa [List.getElem?_drop] at hx
      · cases hx
    refine .arr A n c o.sz _ (fun x y => (F' k.b ((a + x) * o.sz + y)).getD default) (by simp; omega) hc hm (fun x el hx => hl _ _ (get x el hx)) (fun x el j u hx hj => (hat _ _ _ _ (get x el hx) hj).1) (fun h0 => ?_) (fun x el j u hx hj => ?_)
    · obtain ⟨hA1, _⟩ := hA (by omega)
      refine ⟨k.b, a * k.sz, hA1, fun x el j u hx hj => ?_⟩
      obtain ⟨_, v, hv, _⟩ := hat _ _ _ _ (get x el hx) hj
      have e : a * k.sz + x * o.sz + j = (a + x) * o.sz + j := by rw [hsz, Nat.add_mul]
      rw [e, hv]
      rfl
    · obtain ⟨_, v, hv, hr⟩ := hat _ _ _ _ (get x el hx) hj
      rw [hv]
      exact hr
theorem Fz2.ptr {x off : Nat} {el : List V} (he : o.els[x]? = some el) : Fz2 i o (.ptr i x off) (.iptr (el.drop off)) := fun F F' ν v h hr => by
  obtain ⟨k, hk, hsz, hl, hat⟩ := h.at'
  cases hr with
  | ptr _ _ _ k' hk' =>
    rw [hk] at hk'
    cases hk'
    have get : ∀ (y : Nat) (u : V), (el.drop off)[y]? = some u → el[off + y]? = some u := fun y u hy => by rwa [List.getElem?_drop] at hy
    refine .iptr k.b (x * k.sz + off) _ (fun y => (F' k.b (x * k.sz + off + y)).getD default) (fun y u hy => (hat _ _ _ _ he (get y u hy)).1) (fun y u hy => ?_) (fun y u hy => ?_)
    · obtain ⟨_, v, hv, _⟩ := hat _ _ _ _ he (get y u hy)
      have e : x * k.sz + off + y = x * o.sz + (off + y) := by rw [hsz]; omega
      rw [e, hv]; rfl
    · obtain ⟨_, v, hv, hr⟩ := hat _ _ _ _ he (get y u hy)
      have e : x * k.sz + off + y = x * o.sz + (off + y) := by rw [hsz]; omega
      rw [e, hv]; exact hr
theorem Fzs.len {us us' : List V} (h : Fzs i o us us') : us.length = us'.length := by
  induction h with
  | nil => rfl
  | cons _ _ ih => simp [ih]
theorem Fzs.at {us us' : List V} (h : Fzs i o us us') : ∀ (j : Nat) (u' : V), us'[j]? = some u' → ∃ u, us[j]? = some u ∧ Fz2 i o u u' := by
  induction h with
  | nil => intro j u' hj; simp at hj
  | cons h hs ih =>
    intro j u' hj
    cases j with
    | zero => simp at hj; subst hj; exact ⟨_, rfl, h⟩
    | succ j => exact ih j u' (by simpa using hj)
theorem Fzs.keep (us : List V) : Fzs i o us us := by
  induction us with
  | nil => exact .nil
  | cons u r ih => exact .cons Fz2.keep ih
theorem Fzs.append {us us' vs vs' : List V} (h : Fzs i o us us') (h2 : Fzs i o vs vs') : Fzs i o (us ++ vs) (us' ++ vs') := by
  induction h with
  | nil => exact h2
  | cons h _ ih => exact .cons h ih
theorem Fz2.agg {us us' : List V} (h : Fzs i o us us') (hc : ∀ u ∈ us', u.cell = true) : Fz2 i o (.agg us) (.agg us') := fun F F' ν v hi hr => by
  cases hr with
  | agg vs _ hl hce hr =>
    refine .agg vs us' (hl.trans h.len) (fun j u hj => hc u (List.mem_of_getElem? hj)) fun j v u hv hj => ?_
    obtain ⟨u0, h0, hw⟩ := h.at j u hj
    exact hw _ _ _ _ hi (hr j v u0 hv h0)
theorem Fz2.tup {us us' : List V} (h : Fzs i o us us') : Fz2 i o (.tup us) (.tup us') := fun F F' ν v hi hr => by
  cases hr with
  | tup vs _ hl hr =>
    refine .tup vs us' (hl.trans h.len) fun j v u hv hj => ?_
    obtain ⟨u0, h0, hw⟩ := h.at j u hj
    exact hw _ _ _ _ hi (hr j v u0 hv h0)
theorem Fz2.fn {f : Nat} {us us' : List V} (h : Fzs i o us us') : Fz2 i o (.fn f us) (.fn f us') := fun F F' ν v hi hr => by
  cases hr with
  | fn _ vs _ hl hr =>
    refine .fn f vs us' (hl.trans h.len) fun j v u hv hj => ?_
    obtain ⟨u0, h0, hw⟩ := h.at j u hj
    exact hw _ _ _ _ hi (hr j v u0 hv h0)

/-- Objects beside it. -/
def FzO (i : Nat) (o : Ob) (p p' : Ob) : Prop := p'.sz = p.sz ∧ p'.els.length = p.els.length ∧ ∀ (x : Nat) (el' : List V), p'.els[x]? = some el' → ∃ el, p.els[x]? = some el ∧ Fzs i o el el' ∧ ∀ u ∈ el', u.cell = true
theorem FzO.cell {us us' : List V} {sz : Nat} (h : Fzs i o us us') (hc : ∀ u ∈ us', u.cell = true) : FzO i o ⟨[us], sz⟩ ⟨[us'], sz⟩ := ⟨rfl, rfl, fun x el' hx => by
  cases x <;> simp at hx
  subst hx
  exact ⟨us, rfl, h, hc⟩⟩
theorem FzO.append {es es' fs fs' : List (List V)} {sz : Nat} (h : FzO i o ⟨es, sz⟩ ⟨es', sz⟩) (h2 : FzO i o ⟨fs, sz⟩ ⟨fs', sz⟩) : FzO i o ⟨es ++ fs, sz⟩ ⟨es' ++ fs', sz⟩ := by
  obtain ⟨_, l1, h1⟩ := h
  obtain ⟨_, l2, h2⟩ := h2
  dsimp only at l1 l2 h1 h2
  refine ⟨rfl, by simp [l1, l2], fun x el' hx => ?_⟩
  dsimp only at hx ⊢
  rw [List.getElem?_append] at hx ⊢
  split at hx
  · rename_i hc
    rw [if_pos (by omega)]
    exact h1 x el' hx
  · rename_i hc
    rw [if_neg (by omega), ← l1]
    exact h2 _ el' hx

def FzL (i : Nat) (o : Ob) (σ : Nat → V) : List (Nat × V) → Prop
  | [] => True
  | p :: r => Fz2 i o (σ p.1) p.2 ∧ FzL i o σ r
def FzH (i : Nat) (o : Ob) (M : Hp) : List (Nat × Ob) → Prop
  | [] => True
  | p :: r => (Nat.beq p.1 i = false ∧ ((M p.1 = some p.2) ∨ ∃ q, M p.1 = some q ∧ FzO i o q p.2)) ∧ FzH i o M r
theorem FzH.at {M : Hp} {H : List (Nat × Ob)} (h : FzH i o M H) {x : Nat} {o' : Ob} (hx : hl H x = some o') : x ≠ i ∧ ((M x = some o') ∨ ∃ q, M x = some q ∧ FzO i o q o') := by
  induction H with
  | nil => cases hx
  | cons p r ih =>
    rw [hl_cons] at hx
    split at hx
    · rename_i e
      subst e
      cases hx
      exact ⟨fun e => by have := h.1.1; rw [e] at this; simp at this, h.1.2⟩
    · exact ih h.2 hx
end

theorem ObAt.cellF {F : Fz} {ν : Nu} {w : World} {o : Ob} {k : Blk} (h : ObAt F ν w o k) (hF : k.vt = false → ∀ x, F k.b x = none) {M : Hp} {B : Gd} (hok : Ok B F ν M w) {i : Nat} (hk : ν i = some k) (hn : k.vt = false → ∀ id' o' k', M id' = some o' → ν id' = some k' → k'.vt = false → k'.b ≠ k.b) (hlv : k.vt = false → B.D k.b ∨ B.w.heap.size ≤ k.b) :
    ∃ F', Ice F F' ν i o ∧ Ok B F' ν M w := by
  have hl := h.lens
  rcases h with ⟨hv, cur, ty, fr, g1, ⟨g2, gty⟩, g3, g4, g5, g6, g7⟩ | ⟨hv, g1, g2, g3⟩
  · have hle := addF_le (f := fun x => cur[x]?) (hF hv)
    refine ⟨_, ⟨hle, k, hk, g4, g5, fun x el j u hx hj => ?_⟩, hok.imm (hF hv) (hn hv) (hlv hv) (fun x v hx => by rw [cell_at g1]; exact hx)⟩
    obtain ⟨hc, v, hv, hr⟩ := g7 x el j u hx hj
    exact ⟨hc, v, by simpa [addF] using hv, hr.mono hle (Nu.le_refl _)⟩
  · exact ⟨F, ⟨Fz.le_refl _, k, hk, g2, hl, fun x el j u hx => by rw [g3] at hx; simp at hx⟩, hok⟩

/-- An object is written no more. -/
theorem to_fz {X : Cx} {σ : Nat → V} {M : Hp} {n : Nat} (i : Nat) {o : Ob} (hm : M i = some o) {L : List (Nat × V)} {H : List (Nat × Ob)} (hL : FzL i o σ L) (hH : FzH i o M H) : To X ⟨σ, M, n⟩ ⟨ls L, hl H, n⟩ := by
  intro a w F ν hs
  obtain ⟨k, hk, hat, hF⟩ := hs.ok.ob _ _ hm
  obtain ⟨F', hic, ok'⟩ := hat.cellF hF (hs.ok.drop i) (i := i) hk (fun hv id' o' k' a b v' => by
    have hne : id' ≠ i := fun e => by rw [e, setM_same] at a; cases a
    rw [setM_ne hne] at a
    exact hs.ok.inj _ _ _ _ _ _ a hm hne b hk v' hv) (fun hv => hs.ok.live _ _ _ hm hk hv)
  have src : ∀ x o', hl H x = some o' → ∃ q, setM M i none x = some q := fun x o' hx => by
    obtain ⟨hne, h | ⟨q, h, _⟩⟩ := hH.at hx
    · exact ⟨o', by rw [setM_ne hne]; exact h⟩
    · exact ⟨q, by rw [setM_ne hne]; exact h⟩
  refine ⟨F', ν, ⟨ok'.fz, fun x o' hx => ?_, fun x y o1 o2 k1 k2 hx hy => ?_, ok'.below, fun x o1 k1 hx => ?_, ok'.tab, ok'.ice⟩, hs.nxt, fun t => ?_, hs.size, hs.df, Fz.le_trans hs.leF hic.le, hs.old, hs.le⟩
  · obtain ⟨hne, h | ⟨q, h, h1, h2, h3⟩⟩ := hH.at hx
    · exact ok'.ob x o' (by rw [setM_ne hne]; exact h)
    · obtain ⟨kx, hkx, hat, hfx⟩ := ok'.ob x q (by rw [setM_ne hne]; exact h)
      refine ⟨kx, hkx, ?_, hfx⟩
      rcases hat with ⟨hv, cur, ty, fr, g1, ⟨g2, gty⟩, g3, g4, g5, g6, g7⟩ | ⟨hv, g1, g2, g3⟩
      · refine .inl ⟨hv, cur, ty, fr, g1, ⟨g2, gty⟩, g3, g4.trans h1.symm, fun x' el' hx' => ?_, by rw [h2, h1]; exact g6, fun x' el' j u' hx' hj => ?_⟩
        · obtain ⟨el, he, hz, _⟩ := h3 x' el' hx'
          rw [← hz.len, h1]
          exact g5 x' el he
        · obtain ⟨el, he, hz, hc⟩ := h3 x' el' hx'
          obtain ⟨u, hu, hw⟩ := hz.at j u' hj
          obtain ⟨_, v, hv, hr⟩ := g7 x' el j u he hu
          refine ⟨hc u' (List.mem_of_getElem? hj), v, by rw [h1]; exact hv, hw _ _ _ _ ⟨Fz.le_refl _, hic.at'⟩ hr⟩
      · exact .inr ⟨hv, g1, g2.trans h1.symm, List.eq_nil_of_length_eq_zero (by rw [h2, g3]; rfl)⟩
  · obtain ⟨q1, h1⟩ := src _ _ hx
    obtain ⟨q2, h2⟩ := src _ _ hy
    exact ok'.inj _ _ _ _ _ _ h1 h2
  · obtain ⟨q1, h1⟩ := src _ _ hx
    exact ok'.live _ _ _ h1
  · have hm := hs.maps
    dsimp only at hm ⊢
    induction L with
    | nil => exact .any _
    | cons p r ih =>
      rw [ls_cons]
      split
      · rename_i e; subst e; exact hL.1 _ _ _ _ hic (hm _)
      · exact ih hL.2

/-! ### A call that is lent an object -/
/-- It reads the same wherever. -/
def Pl (u : V) : Prop := ∀ F ν F' ν' v, Rel F ν v u → Rel F' ν' v u
theorem Pl.val {v : Value} : Pl (.val v) := fun _ _ _ _ _ h => by cases h with | val _ h => exact .val _ h
theorem Pl.nz : Pl .nz := fun _ _ _ _ _ h => by cases h with | nz t v => exact .nz t v
theorem Pl.tup {us : List V} (h : ∀ u ∈ us, Pl u) : Pl (.tup us) := fun _ _ _ _ _ hr => by
  cases hr with | tup vs _ hl hr => exact .tup vs _ hl fun j v u hv hu => h u (List.mem_of_getElem? hu) _ _ _ _ _ (hr j v u hv hu)
theorem Pl.agg {us : List V} (h : ∀ u ∈ us, Pl u) : Pl (.agg us) := fun _ _ _ _ _ hr => by
  cases hr with | agg vs _ hl hce hr => exact .agg vs _ hl hce fun j v u hv hu => h u (List.mem_of_getElem? hu) _ _ _ _ _ (hr j v u hv hu)

section
variable {P : Program} {σ : Nat → V} {M : Hp} {id : Nat} {dst : Option Nat} {ty : Nat} {pos : String} {after : Array Edge} {guard : Option (Nat × Bool)} {c : Operand} {args : Array Operand} {ts : Array TypeId} {f : Nat} {caps : List V} {u : V}
theorem yl_bo {i : Nat} {o : Ob} {us' : List V} (hc : ev σ c = .fn f caps) (hp : plain P f = true) (hM : M i = some o) (hus : Fzs i o (args.toList.map (ev σ) ++ caps) us') (h : Pu P f us' u) (hu : Pl u) : Yl P ⟨dst, .call ⟨.value c, args, ts⟩, ty, pos, after, guard⟩ σ M id u [] := by
  intro B M' hs a w F ν hok hid hN hm
  obtain ⟨vs, hrun, hl, hr⟩ := call_enter (args := args) (ts := ts) (dst := dst) (ty := ty) (pos := pos) (after := after) (guard := guard) (w := w) hm hc hp
  unfold Oper.wp
  rw [hrun]
  simp only [Oper.upon]
  have hmi := hs _ _ hM
  obtain ⟨k, hk, hat, hF⟩ := hok.ob _ _ hmi
  obtain ⟨F1, hic, ok1⟩ := hat.cellF hF (hok.drop i) (i := i) hk (fun hv id' o' k' a b v' => by
    have hne : id' ≠ i := fun e => by rw [e, setM_same] at a; cases a
    rw [setM_ne hne] at a
    exact hok.inj _ _ _ _ _ _ a hmi hne b hk v' hv) (fun hv => hok.live _ _ _ hmi hk hv)
  refine (h.run w F1 ν0 vs (ok1.enter (νc := ν0) (Mc := M0) (fun x o hx => by cases hx)) (fun _ _ => rfl) (hl.trans hus.len) (fun j v u hj hu => ?_)).mono fun e w' hx => ?_
  · obtain ⟨u0, h0, hw⟩ := hus.at j u hu
    exact (hw _ _ _ _ hic (hr j v u0 hj h0)).nf (h.hus u (List.mem_of_getElem? hu))
  · obtain ⟨v, F', ν', rfl, ok', hF', _, hrel⟩ := hx
    exact ⟨v, u, M', F, ν, rfl, ⟨rfl, rfl⟩, hok.on ok'.below.os ok'.below.tape ok'.below.output ok'.below.size (fun b hb => ok'.below.block b hb (fun ⟨_, _, _, h, _⟩ => by cases h)), Fz.le_refl _, Nu.le_refl _, fun _ _ => rfl, hu _ _ _ _ _ hrel⟩
end

/-! ### A contract out of a body -/
/-- What a body's results are. -/
def rres (P : Program) (s : St) : ResultVar → Option V
  | .tmp t => some (s.σ t)
  | .cell p ty => match pcells s.M (s.σ p), isAg P ty, szOf P ty with
    | some cs, some ag, some n => vload ag n cs
    | _, _, _ => none
def vress (P : Program) (s : St) : List ResultVar → Option (List V)
  | [] => some []
  | r :: rs => match rres P s r, vress P s rs with
    | some u, some us => some (u :: us)
    | _, _ => none
def vtup : List V → V
  | [u] => u
  | us => .tup us
def vres (P : Program) (s : St) (rs : List ResultVar) : Option V := (vress P s rs).map vtup

def resOne (tmps : Array Value) : ResultVar → Sem Value
  | .tmp t => pure (tmps.getD t undef)
  | .cell p t => do loadVar t (← asAddr (tmps.getD p undef))

theorem results_eq (fn : Func) (tmps : Array Value) : results fn tmps = (do
    let vs ← fn.results.mapM (resOne tmps)
    pure (if h : vs.size = 1 then vs[0] else .tuple vs)) := rfl

section
variable {P : Program} {X : Cx} {s : St}
theorem vress_run {a : Act} {w : World} {F : Fz} {ν : Nu} (hs : Sim X s a w F ν) : ∀ (rs : List ResultVar) (us : List V), vress P s rs = some us →
    ∃ vs : List Value, (rs.mapM (resOne a.tmps)).run P w = .ok vs w ∧ vs.length = us.length ∧ ∀ (j : Nat) (v : Value) (u : V), vs[j]? = some v → us[j]? = some u → Rel F ν v u := by
  intro rs
  induction rs with
  | nil => intro us h; simp only [vress, Option.some.injEq] at h; subst h; exact ⟨[], by simp, rfl, fun j v u h => by simp at h⟩
  | cons r rs ih =>
    intro us h
    unfold vress at h
    split at h
    · rename_i u us' hu hus
      simp only [Option.some.injEq] at h
      subst h
      obtain ⟨vs, h1, h2, h3⟩ := ih us' hus
      have one : ∃ v, (resOne a.tmps r).run P w = .ok v w ∧ Rel F ν v u := by
        cases r with
        | tmp t =>
          simp only [rres, Option.some.injEq] at hu
          subst hu
          exact ⟨_, rfl, hs.maps t⟩
        | cell p t =>
          simp only [rres] at hu
          split at hu
          · rename_i cs ag n hc ha hn
            obtain ⟨b, o, vals, hp, hcs⟩ := pcells_at hs.ok (hs.maps p) hc
            obtain ⟨v, hv, hr⟩ := load_run (P := P) ha hn hcs hu
            exact ⟨v, by simp [resOne, hp, asAddr, hv], hr⟩
          · cases hu
      obtain ⟨v, hv, hr⟩ := one
      refine ⟨v :: vs, ?_, by simp [h2], fun j x y hx hy => ?_⟩
      · rw [List.mapM_cons]
        simp only [Sem.run_bind, hv, Result.andThen, h1]
        rfl
      · cases j with
        | zero => simp at hx hy; subst hx; subst hy; exact hr
        | succ j => exact h3 j x y (by simpa using hx) (by simpa using hy)
    · cases h

theorem vres_run {a : Act} {w : World} {F : Fz} {ν : Nu} {fn : Func} {u : V} (hs : Sim X s a w F ν) (h : vres P s fn.results.toList = some u) : ∃ v, (results fn a.tmps).run P w = .ok v w ∧ Rel F ν v u := by
  unfold vres at h
  cases hv : vress P s fn.results.toList with
  | none => simp [hv] at h
  | some us =>
    rw [hv] at h
    simp only [Option.map_some, Option.some.injEq] at h
    subst h
    obtain ⟨vs, h1, h2, h3⟩ := vress_run (P := P) hs _ _ hv
    have hrun : (results fn a.tmps).run P w = .ok (if h : vs.toArray.size = 1 then vs.toArray[0] else .tuple vs.toArray) w := by
      rw [results_eq, Array.mapM_eq_mapM_toList]
      simp only [map_eq_pure_bind, bind_assoc, pure_bind, Sem.run_bind, h1, Result.andThen, Sem.run_pure]
    refine ⟨_, hrun, ?_⟩
    match us, h2, h3 with
    | [u'], h2, h3 =>
      cases vs with
      | nil => simp at h2
      | cons v r => cases r with
        | nil => exact h3 0 v u' rfl rfl
        | cons v2 r2 => simp at h2
    | [], h2, h3 =>
      have : vs = [] := List.eq_nil_of_length_eq_zero h2
      subst this
      exact .tup [] [] rfl (fun j v u h => by simp at h)
    | u1 :: u2 :: r, h2, h3 =>
      have hn : ¬ (vs.toArray.size = 1) := fun hc => by
        rw [List.size_toArray, h2] at hc
        simp at hc
      rw [dif_neg hn]
      exact .tup vs _ h2 h3
end

def argσ (us : List V) : Nat → V := fun t => (us[t]?).getD .any
def argL : Nat → List V → List (Nat × V)
  | _, [] => []
  | i, u :: r => (i, u) :: argL (i + 1) r
theorem argL_ls (us : List V) : ∀ (i t : Nat), ls (argL i us) (i + t) = argσ us t := by
  induction us with
  | nil => intro i t; simp [argL, ls, argσ]
  | cons u r ih =>
    intro i t
    rw [argL, ls_cons]
    cases t with
    | zero => simp [argσ]
    | succ t =>
      rw [if_neg (by simp), show i + (t + 1) = (i + 1) + t by omega, ih]
      simp [argσ]

/-- A body's end. -/
def EndS (P : Program) (rs : List ResultVar) (u : V) (M' : Hp) (s : St) : Prop := vres P s rs = some u ∧ Sub M' s.M
def retQ (E : St → Prop) : Exit → St → Prop
  | .ret, s => E s
  | .normal, s => E s
  | _, _ => False

theorem Ok.sub {B : Gd} {F : Fz} {ν : Nu} {M M' : Hp} {w : World} (h : Ok B F ν M' w) (hM : Sub M M') : Ok B F ν M w :=
  ⟨h.fz, fun x o hx => h.ob x o (hM _ _ hx), fun x y o o' k k' a b => h.inj x y o o' k k' (hM _ _ a) (hM _ _ b), h.below, fun x o k a => h.live x o k (hM _ _ a), h.tab, h.ice⟩

theorem fs_start {P : Program} {f : Nat} {fn : Func} {c : Code} {us : List V} {M : Hp} {n : Nat} {u : V} {es : Eff} (nt : Nat) (rs : Array ResultVar) (hf : P.funcs[f]? = some fn) (hb : fn.body = some c) (hn : fn.ntmps = nt) (hr : fn.results = rs) (hl : Nat.ble us.length nt = true)
    (h : ∀ X, X.nt = nt → X.n = n → CW P X (retQ (EndS P rs.toList u (app es M))) [.code c] .normal ⟨ls (argL 0 us), M, n⟩) : FS P f us M n u es := by
  subst hn; subst hr
  have hl := Nat.ble_eq.mp hl
  intro w F ν args hok hnx hlen hargs
  refine calls_of_wp hf hb ?_
  have hs : Sim ⟨⟨w, F, own0 ν M⟩, fn.ntmps, F, ν, n⟩ ⟨argσ us, M, n⟩ { tmps := args.toArray ++ Array.replicate (fn.ntmps - args.toArray.size) undef, defers := [] } w F ν := by
    refine ⟨hok, hnx, fun t => ?_, by simp; omega, rfl, Fz.le_refl _, fun _ _ => rfl, Nat.le_refl _⟩
    simp only [argσ]
    cases hu : us[t]? with
    | none => exact .any _
    | some u =>
      obtain ⟨v, hv⟩ := get_of_length hlen hu
      have hlt := (List.getElem?_eq_some_iff.1 hv).1
      have : (args.toArray ++ Array.replicate (fn.ntmps - args.toArray.size) undef).getD t undef = v := by
        rw [Array.getD_eq_getD_getElem?, Array.getElem?_append_left (by simpa using hlt)]
        simp [hv]
      show Rel F ν (_ : Value) ((some u).getD .any)
      rw [this]
      exact hargs _ _ _ hv hu
  have e : ls (argL 0 us) = argσ us := by funext t; simpa using argL_ls us 0 t
  have h0 := h ⟨⟨w, F, own0 ν M⟩, fn.ntmps, F, ν, n⟩ rfl rfl
  rw [e] at h0
  refine wp_mono (h0 _ w F ν hs) fun e a' w' hx => ?_
  obtain ⟨s', F', ν', h1, h2⟩ := hx
  have main : EndS P fn.results.toList u (app es M) s' → a'.defers = [] ∧ ∃ v, (results fn a'.tmps).run P w' = .ok v w' ∧ ∃ v_1 F' ν', Ending.returned v = .returned v_1 ∧ Ok ⟨w, F, own0 ν M⟩ F' ν' (app es M) w' ∧ Fz.le F F' ∧ (∀ id, id < n → ν' id = ν id) ∧ Rel F' ν' v_1 u := by
    rintro ⟨hr, hM⟩
    refine ⟨h1.df, ?_⟩
    obtain ⟨v, hv, hrel⟩ := vres_run (P := P) h1 hr
    exact ⟨v, hv, v, F', ν', rfl, h1.ok.sub hM, h1.leF, h1.old, hrel⟩
  cases e with
  | ret => exact main h2
  | normal => exact main h2
  | _ => exact h2.elim
end Go.Ka
