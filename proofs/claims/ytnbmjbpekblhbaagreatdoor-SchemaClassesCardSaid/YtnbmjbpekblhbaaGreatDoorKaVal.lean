/- Abstract values for walks: what a value reads as, apart from where it lies. -/
import Derived.WalkKit
set_option linter.all false
namespace Go.Ka

/-- What a value says: a plain value, a slice that nobody writes any more, a pointer into one, a struct, several results, a closure, a view of an object of the walk's own, a pointer into one, an interface value that is not nil. -/
inductive V where
  | any
  | val (v : Value)
  | arr (els : List (List V))
  | iptr (cs : List V)
  | agg (cs : List V)
  | tup (vs : List V)
  | fn (f : Nat) (caps : List V)
  | own (id a n : Nat)
  | ptr (id i off : Nat)
  | nz
  | sp (id : Nat) (T : TypeId)
  | ps (id : Nat) (T : TypeId)
  | ub
  | pp
  | owt (id n : Nat) (T : TypeId)

instance : Inhabited V := ⟨.any⟩

/-- Cells that nobody writes any more. -/
abbrev Fz := Nat → Nat → Option Value
def Fz.le (F F' : Fz) : Prop := ∀ b o v, F b o = some v → F' b o = some v
/-- Where an object of the walk's own lies: its block, the cells of an element, the block's cells; or it has no block yet. -/
structure Blk where
  b : Nat
  sz : Nat
  cap : Nat
  vt : Bool
  ty : TypeId
abbrev Nu := Nat → Option Blk
def Nu.le (ν ν' : Nu) : Prop := ∀ id k, ν id = some k → ν' id = some k

theorem Fz.le_refl (F : Fz) : Fz.le F F := fun _ _ _ h => h
theorem Nu.le_refl (ν : Nu) : Nu.le ν ν := fun _ _ h => h
theorem Fz.le_trans {F F' F'' : Fz} (h : Fz.le F F') (h' : Fz.le F' F'') : Fz.le F F'' := fun _ _ _ x => h' _ _ _ (h _ _ _ x)
theorem Nu.le_trans {F F' F'' : Nu} (h : Nu.le F F') (h' : Nu.le F' F'') : Nu.le F F'' := fun _ _ x => h' _ _ (h _ _ x)

/-- A value that one cell may hold. -/
def V.cell : V → Bool
  | .any | .agg _ | .tup _ => false
  | _ => true

inductive Rel (F : Fz) (ν : Nu) : Value → V → Prop
  | any (v : Value) : Rel F ν v .any
  | val (v : Value) (h : v.oneCell' = true) : Rel F ν v (.val v)
  | arr (A : Option Addr) (n c sz : Nat) (els : List (List V)) (vals : Nat → Nat → Value) (hn : els.length = n) (hc : n ≤ c) (hm : c ≤ maxLen)
      (hsz : ∀ (i : Nat) (el : List V), els[i]? = some el → el.length = sz) (hce : ∀ (i : Nat) (el : List V) (j : Nat) (u : V), els[i]? = some el → el[j]? = some u → u.cell = true)
      (hA : n ≠ 0 → ∃ b o, A = some ⟨b, o, none⟩ ∧ ∀ (i : Nat) (el : List V) (j : Nat) (u : V), els[i]? = some el → el[j]? = some u → F b (o + i * sz + j) = some (vals i j))
      (hr : ∀ (i : Nat) (el : List V) (j : Nat) (u : V), els[i]? = some el → el[j]? = some u → Rel F ν (vals i j) u) : Rel F ν (.slice A n c) (.arr els)
  | iptr (b o : Nat) (cs : List V) (vals : Nat → Value) (hce : ∀ (j : Nat) (u : V), cs[j]? = some u → u.cell = true) (h : ∀ (j : Nat) (u : V), cs[j]? = some u → F b (o + j) = some (vals j))
      (hr : ∀ (j : Nat) (u : V), cs[j]? = some u → Rel F ν (vals j) u) : Rel F ν (.pointer (some ⟨b, o, none⟩)) (.iptr cs)
  | agg (vs : List Value) (cs : List V) (hl : vs.length = cs.length) (hce : ∀ (j : Nat) (u : V), cs[j]? = some u → u.cell = true)
      (hr : ∀ (j : Nat) (v : Value) (u : V), vs[j]? = some v → cs[j]? = some u → Rel F ν v u) : Rel F ν (.agg vs.toArray) (.agg cs)
  | tup (vs : List Value) (cs : List V) (hl : vs.length = cs.length) (hr : ∀ (j : Nat) (v : Value) (u : V), vs[j]? = some v → cs[j]? = some u → Rel F ν v u) : Rel F ν (.tuple vs.toArray) (.tup cs)
  | fn (f : Nat) (vs : List Value) (cs : List V) (hl : vs.length = cs.length) (hr : ∀ (j : Nat) (v : Value) (u : V), vs[j]? = some v → cs[j]? = some u → Rel F ν v u) :
      Rel F ν (.func (.func f) #[] vs.toArray) (.fn f cs)
  | own (id a n c : Nat) (A : Option Addr) (k : Blk) (hk : ν id = some k) (hc : n ≤ c) (hm : c ≤ maxLen) (hA : c ≠ 0 → A = some ⟨k.b, a * k.sz, none⟩ ∧ (a + c) * k.sz ≤ k.cap) (hB : A = none ∨ ∃ off, A = some ⟨k.b, off, none⟩ ∧ k.vt = false) :
      Rel F ν (.slice A n c) (.own id a n)
  | ptr (id i off : Nat) (k : Blk) (hk : ν id = some k) : Rel F ν (.pointer (some ⟨k.b, i * k.sz + off, none⟩)) (.ptr id i off)
  | nz (t : TypeId) (v : Value) : Rel F ν (.iface t v) .nz
  | sp (id : Nat) (T : TypeId) (k : Blk) (p : Option Addr) (hk : ν id = some k) (hT : k.ty = T ∧ k.cap = 2) (hp : p = none ∨ p = some ⟨k.b, 0, none⟩) : Rel F ν (.pointer p) (.sp id T)
  | ps (id : Nat) (T : TypeId) (k : Blk) (hk : ν id = some k) (hT : k.ty = T) : Rel F ν (.pointer (some ⟨k.b, 0, none⟩)) (.ps id T)
  | ub (b : Bool) : Rel F ν (.bool b) .ub
  | pp (p : Option Addr) : Rel F ν (.pointer p) .pp
  | owt (id n c : Nat) (T : TypeId) (A : Option Addr) (k : Blk) (hk : ν id = some k) (hc : n ≤ c) (hm : c ≤ maxLen) (hA : c ≠ 0 → A = some ⟨k.b, 0 * k.sz, none⟩ ∧ (0 + c) * k.sz ≤ k.cap) (hB : A = none ∨ ∃ off, A = some ⟨k.b, off, none⟩ ∧ k.vt = false) (hT : k.vt = false → k.ty = T) :
      Rel F ν (.slice A n c) (.owt id n T)

theorem Rel.mono {F F' : Fz} {ν ν' : Nu} (hF : Fz.le F F') (hν : Nu.le ν ν') {v : Value} {u : V} (h : Rel F ν v u) : Rel F' ν' v u := by
  induction h with
  | any v => exact .any v
  | val v h => exact .val v h
  | arr A n c sz els vals hn hc hm hsz hce hA _ ih =>
    refine .arr A n c sz els vals hn hc hm hsz hce (fun h0 => ?_) ih
    obtain ⟨b, o, rfl, h⟩ := hA h0
    exact ⟨b, o, rfl, fun i el j u h1 h2 => hF _ _ _ (h i el j u h1 h2)⟩
  | iptr b o cs vals hce h _ ih => exact .iptr b o cs vals hce (fun j u hj => hF _ _ _ (h j u hj)) ih
  | agg vs cs hl hce _ ih => exact .agg vs cs hl hce ih
  | tup vs cs hl _ ih => exact .tup vs cs hl ih
  | fn f vs cs hl _ ih => exact .fn f vs cs hl ih
  | own id a n c A k hk hc hm hA hB => exact .own id a n c A k (hν _ _ hk) hc hm hA hB
  | ptr id i off k hk => exact .ptr id i off k (hν _ _ hk)
  | nz t v => exact .nz t v
  | sp id T k p hk hT hp => exact .sp id T k p (hν _ _ hk) hT hp
  | ps id T k hk hT => exact .ps id T k (hν _ _ hk) hT
  | ub b => exact .ub b
  | pp p => exact .pp p
  | owt id n c T A k hk hc hm hA hB hT => exact .owt id n c T A k (hν _ _ hk) hc hm hA hB hT

theorem Rel.oneCell {F : Fz} {ν : Nu} {v : Value} {u : V} (h : Rel F ν v u) (hu : u.cell = true) : v.oneCell' = true := by
  cases h <;> first | rfl | assumption | (simp [V.cell] at hu)

/-- The objects that a value names. -/
inductive V.names : V → Nat → Prop
  | arr {els : List (List V)} {i j : Nat} {el : List V} {u : V} {id : Nat} (h1 : els[i]? = some el) (h2 : el[j]? = some u) (h : u.names id) : V.names (.arr els) id
  | iptr {cs : List V} {j : Nat} {u : V} {id : Nat} (h2 : cs[j]? = some u) (h : u.names id) : V.names (.iptr cs) id
  | agg {cs : List V} {j : Nat} {u : V} {id : Nat} (h2 : cs[j]? = some u) (h : u.names id) : V.names (.agg cs) id
  | tup {cs : List V} {j : Nat} {u : V} {id : Nat} (h2 : cs[j]? = some u) (h : u.names id) : V.names (.tup cs) id
  | fn {f : Nat} {cs : List V} {j : Nat} {u : V} {id : Nat} (h2 : cs[j]? = some u) (h : u.names id) : V.names (.fn f cs) id
  | own {id a n : Nat} : V.names (.own id a n) id
  | ptr {id i off : Nat} : V.names (.ptr id i off) id
  | sp {id : Nat} {T : TypeId} : V.names (.sp id T) id
  | ps {id : Nat} {T : TypeId} : V.names (.ps id T) id
  | owt {id n : Nat} {T : TypeId} : V.names (.owt id n T) id

theorem get_of_length {α β : Type} {l : List α} {m : List β} (h : l.length = m.length) {j : Nat} {x : β} (hj : m[j]? = some x) : ∃ y, l[j]? = some y := by
  have := (List.getElem?_eq_some_iff.1 hj).1
  exact ⟨l[j], List.getElem?_eq_getElem (by omega)⟩

theorem Rel.named {F : Fz} {ν : Nu} {v : Value} {u : V} (h : Rel F ν v u) : ∀ id, u.names id → ∃ k, ν id = some k := by
  induction h with
  | any v => intro id h; cases h
  | val v _ => intro id h; cases h
  | arr A n c sz els vals hn hc hm hsz hce hA _ ih => intro id h; cases h with | arr h1 h2 h => exact ih _ _ _ _ h1 h2 _ h
  | iptr b o cs vals hce h _ ih => intro id h; cases h with | iptr h2 h => exact ih _ _ h2 _ h
  | agg vs cs hl hce _ ih => intro id h; cases h with | agg h2 h => obtain ⟨y, hy⟩ := get_of_length hl h2; exact ih _ _ _ hy h2 _ h
  | tup vs cs hl _ ih => intro id h; cases h with | tup h2 h => obtain ⟨y, hy⟩ := get_of_length hl h2; exact ih _ _ _ hy h2 _ h
  | fn f vs cs hl _ ih => intro id h; cases h with | fn h2 h => obtain ⟨y, hy⟩ := get_of_length hl h2; exact ih _ _ _ hy h2 _ h
  | own id a n c A k hk hc hm hA hB => intro id h; cases h; exact ⟨k, hk⟩
  | ptr id i off k hk => intro id h; cases h; exact ⟨k, hk⟩
  | nz t v => intro id h; cases h
  | sp id T k p hk hT hp => intro id h; cases h; exact ⟨k, hk⟩
  | ps id T k hk hT => intro id h; cases h; exact ⟨k, hk⟩
  | ub b => intro id h; cases h
  | pp p => intro id h; cases h
  | owt id n c T A k hk hc hm hA hB hT => intro id h; cases h; exact ⟨k, hk⟩

/-- What names old objects alone reads the same where new ones are forgotten. -/
theorem Rel.less {F : Fz} {ν ν' : Nu} {v : Value} {u : V} (h : Rel F ν' v u) (hs : ∀ id, u.names id → ν id = ν' id) : Rel F ν v u := by
  induction h with
  | any v => exact .any v
  | val v h => exact .val v h
  | arr A n c sz els vals hn hc hm hsz hce hA _ ih => exact .arr A n c sz els vals hn hc hm hsz hce hA fun i el j u h1 h2 => ih _ _ _ _ h1 h2 fun id hid => hs id (.arr h1 h2 hid)
  | iptr b o cs vals hce h _ ih => exact .iptr b o cs vals hce h fun j u hj => ih _ _ hj fun id hid => hs id (.iptr hj hid)
  | agg vs cs hl hce _ ih => exact .agg vs cs hl hce fun j v u h1 h2 => ih _ _ _ h1 h2 fun id hid => hs id (.agg h2 hid)
  | tup vs cs hl _ ih => exact .tup vs cs hl fun j v u h1 h2 => ih _ _ _ h1 h2 fun id hid => hs id (.tup h2 hid)
  | fn f vs cs hl _ ih => exact .fn f vs cs hl fun j v u h1 h2 => ih _ _ _ h1 h2 fun id hid => hs id (.fn h2 hid)
  | own id a n c A k hk hc hm hA hB => exact .own id a n c A k ((hs id .own).trans hk) hc hm hA hB
  | ptr id i off k hk => exact .ptr id i off k ((hs id .ptr).trans hk)
  | nz t v => exact .nz t v
  | sp id T k p hk hT hp => exact .sp id T k p ((hs id .sp).trans hk) hT hp
  | ps id T k hk hT => exact .ps id T k ((hs id .ps).trans hk) hT
  | ub b => exact .ub b
  | pp p => exact .pp p
  | owt id n c T A k hk hc hm hA hB hT => exact .owt id n c T A k ((hs id .owt).trans hk) hc hm hA hB hT

end Go.Ka
