/- Plain words for what the program's operations say: no program, no memory. -/
set_option linter.all false
namespace Go.Ka

abbrev Str := List UInt8

def inR (z : Int) : Bool := decide (-9223372036854775808 ≤ z) && decide (z < 9223372036854775808)
def fitB (b n : Nat) : Bool := decide (n * b ≤ 140737488355328) && decide (n ≤ 9223372036854775807)

/-- What holds, or nothing. -/
def okO {α : Type} (c : Bool) (x : α) : Option α := if c = true then some x else none
def addO (a b : Int) : Option Int := okO (inR (a + b)) (a + b)
def subO (a b : Int) : Option Int := okO (inR (a - b)) (a - b)
def mulO (a b : Int) : Option Int := okO (inR (a * b)) (a * b)
def quoO (a b : Int) : Option Int := okO (!decide (b = 0) && inR (a.tdiv b)) (a.tdiv b)
def remO (a b : Int) : Option Int := okO (!decide (b = 0)) (a.tmod b)
def catO (a b : Str) : Option Str := okO (decide (a.length + b.length ≤ 9223372036854775807)) (a ++ b)
/-- A text's byte, a list's element, by a place. -/
def lgetO {α : Type} (l : List α) (i : Int) : Option α := if 0 ≤ i then l[i.toNat]? else none
def lsubO {α : Type} (l : List α) (a b : Int) : Option (List α) := okO (decide (0 ≤ a) && decide (a ≤ b) && decide (b ≤ l.length)) ((l.drop a.toNat).take (b.toNat - a.toNat))
def lsetO {α : Type} (l : List α) (i : Int) (x : α) : Option (List α) := okO (decide (0 ≤ i) && decide (i < l.length)) (l.set i.toNat x)
def appO {α : Type} (b : Nat) (x y : List α) : Option (List α) := okO (fitB b (x.length + y.length)) (x ++ y)
def bytO (s : Str) : Option Str := okO (decide (s.length ≤ 9223372036854775807)) s
def toU8 (n : Int) : UInt8 := UInt8.ofNat (n % 256).toNat
def guardO {α : Type} (c : Bool) (x : Option α) : Option α := if c = true then x else none

section
variable {α : Type}
theorem okO_inv {c : Bool} {x y : α} (h : okO c x = some y) : c = true ∧ x = y := by
  unfold okO at h
  split at h
  · rename_i hc; exact ⟨hc, by simpa using h⟩
  · cases h
theorem okO_eq {c : Bool} {x : α} (h : c = true) : okO c x = some x := if_pos h
theorem bindE {β : Type} {o : Option α} {f : α → Option β} {r : β} (h : o.bind f = some r) : ∃ x, o = some x ∧ f x = some r := by
  cases o with
  | none => cases h
  | some x => exact ⟨x, rfl, h⟩
theorem condT {b : Bool} {x y : Option α} {r : α} (hb : b = true) (h : (bif b then x else y) = some r) : x = some r := by subst hb; exact h
theorem condF {b : Bool} {x y : Option α} {r : α} (hb : b = false) (h : (bif b then x else y) = some r) : y = some r := by subst hb; exact h
theorem someE {x y : α} (h : some x = some y) : x = y := by cases h; rfl
theorem inR_iff {z : Int} : inR z = true ↔ -9223372036854775808 ≤ z ∧ z < 9223372036854775808 := by simp [inR]
theorem addO_eq {a b : Int} (h : -9223372036854775808 ≤ a + b ∧ a + b < 9223372036854775808) : addO a b = some (a + b) := okO_eq (inR_iff.2 h)
theorem subO_eq {a b : Int} (h : -9223372036854775808 ≤ a - b ∧ a - b < 9223372036854775808) : subO a b = some (a - b) := okO_eq (inR_iff.2 h)
theorem mulO_eq {a b : Int} (h : -9223372036854775808 ≤ a * b ∧ a * b < 9223372036854775808) : mulO a b = some (a * b) := okO_eq (inR_iff.2 h)
theorem catO_eq {a b : Str} (h : a.length + b.length ≤ 9223372036854775807) : catO a b = some (a ++ b) := okO_eq (by simpa using h)
theorem fitB_iff {b n : Nat} : fitB b n = true ↔ n * b ≤ 140737488355328 ∧ n ≤ 9223372036854775807 := by simp [fitB]
theorem appO_eq {b : Nat} {x y : List α} (h : (x.length + y.length) * b ≤ 140737488355328 ∧ x.length + y.length ≤ 9223372036854775807) : appO b x y = some (x ++ y) := okO_eq (fitB_iff.2 h)
theorem lgetO_nat {l : List α} {i : Nat} : lgetO l (i : Int) = l[i]? := by simp [lgetO]
theorem lgetO_some {l : List α} {i : Int} {x : α} (h : lgetO l i = some x) : 0 ≤ i ∧ l[i.toNat]? = some x ∧ i.toNat < l.length := by
  unfold lgetO at h
  split at h
  · rename_i h0; exact ⟨h0, h, (List.getElem?_eq_some_iff.1 h).1⟩
  · cases h
theorem lsubO_eq {l : List α} {a b : Int} (h : 0 ≤ a ∧ a ≤ b ∧ b ≤ l.length) : lsubO l a b = some ((l.drop a.toNat).take (b.toNat - a.toNat)) := okO_eq (by simpa [and_assoc] using h)
theorem lsetO_eq {l : List α} {i : Int} {x : α} (h : 0 ≤ i ∧ i < l.length) : lsetO l i x = some (l.set i.toNat x) := okO_eq (by simpa using h)
theorem bytO_eq {s : Str} (h : s.length ≤ 9223372036854775807) : bytO s = some s := okO_eq (by simpa using h)
end
def lenO (l : Str) : Option Unit := okO (decide (l.length ≤ 9223372036854775807)) ()
end Go.Ka
