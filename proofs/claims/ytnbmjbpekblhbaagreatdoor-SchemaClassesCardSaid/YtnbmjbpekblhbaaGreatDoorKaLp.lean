/- The library's functions, as plain words. -/
import Derived.Test.YtnbmjbpekblhbaaGreatDoorKaY
import Derived.Lib.AtoiAll
import Derived.Shelf.Strings.Prefix
import Derived.Shelf.Strings.Trim
import Derived.Shelf.Strings.Fields
import Derived.Shelf.Slices.CompactS
import Derived.Shelf.Strconv.Itoa3
set_option linter.all false
namespace Go.Ka
variable [Tab]
def s_indexByte (s : Str) (c : UInt8) : Option Int := some (Lib.indexByte s c)
def s_trim (s t : Str) : Option Str := match t with
  | [c] => okO (decide (c.toNat < 128) && decide (s.length ≤ 9223372036854775807)) (Lib.trimB s c)
  | _ => none
def s_trimPrefix (s p : Str) : Option Str := some (Lib.trimPrefix s p)
def s_atoi (s : Str) : Option (Int × Bool) := okO (decide (s.length ≤ 281474976710656)) (match Lib.atoiAll s with
  | .ok v => (v, false)
  | .range => (Lib.atoiSat s, true)
  | _ => (0, true))
def s_itoa (n : Int) : Option Str := okO (inR n) (Lib.itoa n)
def s_fields (s : Str) : Option (List Str) := okO ((decide (s.length < 4294967281) && s.all fun b => decide (b.toNat < 128)) && decide ((Lib.fields s).length ≤ 9223372036854775807)) (Lib.fields s)
def s_cloneS (l : List Str) : Option (List Str) := okO (decide (l.length * 16 ≤ 140737488355328)) l
def insL (x : Str) : List Str → List Str
  | [] => [x]
  | y :: r => bif decide (x ≤ y) then x :: y :: r else y :: insL x r
def sortL (l : List Str) : List Str := l.foldr insL []
theorem insL_perm (x : Str) (l : List Str) : (insL x l).Perm (x :: l) := by
  induction l with
  | nil => exact .refl _
  | cons y r ih =>
    unfold insL
    cases decide (x ≤ y)
    · exact (ih.cons y).trans (.swap x y r)
    · exact .refl _
theorem sortL_perm (l : List Str) : (sortL l).Perm l := by
  induction l with
  | nil => exact .refl _
  | cons x r ih => exact (insL_perm x _).trans (ih.cons x)
@[simp] theorem sortL_len (l : List Str) : (sortL l).length = l.length := (sortL_perm l).length_eq
theorem insL_sorted (x : Str) (l : List Str) (h : l.Pairwise (· ≤ ·)) : (insL x l).Pairwise (· ≤ ·) := by
  induction l with
  | nil => simp [insL]
  | cons y r ih =>
    unfold insL
    cases hb : decide (x ≤ y)
    · have hxy : y ≤ x := (List.le_total x y).resolve_left (by simpa using hb)
      have hr := List.pairwise_cons.1 h
      refine List.pairwise_cons.2 ⟨fun z hz => ?_, ih hr.2⟩
      rcases List.mem_cons.1 ((insL_perm x r).mem_iff.1 hz) with rfl | hz
      · exact hxy
      · exact hr.1 z hz
    · have hxy : x ≤ y := by simpa using hb
      have hr := List.pairwise_cons.1 h
      refine List.pairwise_cons.2 ⟨fun z hz => ?_, h⟩
      rcases List.mem_cons.1 hz with rfl | hz
      · exact hxy
      · exact List.le_trans hxy (hr.1 z hz)
theorem sortL_sorted (l : List Str) : (sortL l).Pairwise (· ≤ ·) := by
  induction l with
  | nil => exact .nil
  | cons x r ih => exact insL_sorted x _ ih
theorem sortL_eq (l : List Str) : sortL l = l.mergeSort fun x y => decide (x ≤ y) := by
  refine List.Perm.eq_of_pairwise (le := (· ≤ ·)) (fun a b _ _ h1 h2 => List.le_antisymm h1 h2) (sortL_sorted l) ?_ ((sortL_perm l).trans (List.mergeSort_perm l _).symm)
  have := List.pairwise_mergeSort (le := fun x y : Str => decide (x ≤ y)) (fun a b c h1 h2 => by simp at h1 h2 ⊢; exact List.le_trans h1 h2) (fun a b => by simpa using List.le_total a b) l
  exact this.imp fun h => by simpa using h
def s_sortS (l : List Str) : Option Unit := okO (decide (l.length < 4611686018427387904)) ()
def s_compactS (l : List Str) : Option (List Str) := okO (decide (l.length ≤ 4611686018427387904)) (Lib.compact l)
end Go.Ka
