/- Plain laws: places in lists, letters. Plain laws: folding, escaping, the text of a name. Plain laws: the text of a name. Plain laws: what a name's text says. Plain laws: the reference's parse of a name. Plain laws: the program's parse of a name is the reference's. Plain laws: the program's parse and key of a name are the reference's. Plain laws: decimal numbers. Plain laws: rules, alike values. -/
import Derived.Test.YtnbmjbpekblhbaaGreatDoorMC
import Derived.Lib.TrimByte
import Derived.Lib.AtoiTie
import Derived.Lib.ItoaLen
import Derived.Lib.AtoiBound
set_option linter.all false
namespace Go.Ka
set_option maxRecDepth 100000

theorem u8_every {p : UInt8 → Bool} (h : ((List.range 256).all fun i => p (UInt8.ofNat i)) = true) (k : UInt8) : p k = true := by
  have := List.all_eq_true.1 h k.toNat (List.mem_range.2 k.toNat_lt)
  simpa using this
/-- Steps that the kernel is not to take by itself. -/
theorem bS {α β : Type} (a : α) (f : α → Option β) : (some a).bind f = f a := Eq.trans (Eq.refl _) (Eq.refl _)
theorem cT {α : Type} (a b : α) : (bif true then a else b) = a := Eq.trans (Eq.refl _) (Eq.refl _)
theorem cF {α : Type} (a b : α) : (bif false then a else b) = b := Eq.trans (Eq.refl _) (Eq.refl _)
theorem bifAnd (x y : Bool) : (bif x then some y else some false) = some (x && y) := by cases x <;> rfl
theorem bifOr (x y : Bool) : (bif x then some true else some y) = some (x || y) := by cases x <;> rfl
theorem pos_of {t g : Nat} (h : t < g) : ∃ k, g = k + 1 := ⟨g - 1, by omega⟩
/-- A walk's place: behind a, at c. -/
theorem at_c {α : Type} (a : List α) (c : α) (t : List α) (h : (a ++ c :: t).length ≤ 1000000000) :
    decide ((a.length : Int) < ((a ++ c :: t).length : Int)) = true ∧ lgetO (a ++ c :: t) (a.length : Int) = some c ∧ addO (a.length : Int) 1 = some ((a ++ [c]).length : Int) ∧ a ++ c :: t = (a ++ [c]) ++ t := by
  simp only [List.length_append, List.length_cons] at h
  refine ⟨decide_eq_true (by simp only [List.length_append, List.length_cons]; omega), ?_, ?_, by simp⟩
  · rw [lgetO_nat]; simp
  · rw [addO_eq (by omega)]; simp
theorem at_e {α : Type} (a : List α) : decide ((a.length : Int) < ((a ++ []).length : Int)) = false := by simp
theorem set_at {α : Type} (a : List α) (c x : α) (t : List α) : (a ++ c :: t).set ((a.length : Int)).toNat x = (a ++ [x]) ++ t := by simp
theorem nil_len {α : Type} : (([] : List α).length : Int) = 0 := rfl
theorem len_snoc {α : Type} (a : List α) (c x : α) : ((a ++ [c]).length : Int) = ((a ++ [x]).length : Int) := by simp

/-! Letters. -/
def low8 (c : UInt8) : UInt8 := bif decide (65 ≤ c) && decide (c ≤ 90) then c + 32 else c
def lowS (s : Str) : Str := s.map low8
def let8 (c : UInt8) : Bool := (decide (97 ≤ c) && decide (c ≤ 122)) || (decide (65 ≤ c) && decide (c ≤ 90))
def typ8 (c : UInt8) : Bool := let8 c || (decide (48 ≤ c) && decide (c ≤ 57)) || c == 45
def mayT (s : Str) : Bool := match s with
  | [] => false
  | c :: _ => decide (s.length ≤ 30) && let8 c && s.all typ8
@[simp] theorem lowS_len (s : Str) : (lowS s).length = s.length := by simp [lowS]

theorem r1_Lower_l1_eq : ∀ (t a : Str) (g : Nat), t.length < g → (a ++ t).length ≤ 1000000000 → r1_Lower_l1 g (a.length : Int) (a ++ t) = some (a ++ lowS t)
  | [], a, g, hg, hl => by
    obtain ⟨g, rfl⟩ := pos_of hg
    simp only [r1_Lower_l1, at_e, cond_false, r1_Lower_k1, lowS, List.map_nil]
  | c :: t, a, g, hg, hl => by
    obtain ⟨g, rfl⟩ := pos_of hg
    obtain ⟨h1, h2, h3, h4⟩ := at_c a c t hl
    simp only [r1_Lower_l1, h1, h2, cond_true, Option.bind_some, bifAnd, h3]
    have ih : ∀ x, r1_Lower_l1 g ((a ++ [c]).length : Int) ((a ++ [x]) ++ t) = some ((a ++ [x]) ++ lowS t) := fun x => by
      rw [len_snoc a c x]; exact r1_Lower_l1_eq t (a ++ [x]) g (by simp at hg; omega) (by simpa using hl)
    cases hb : (decide (65 ≤ c) && decide (c ≤ 90))
    · simp only [cond_false]
      rw [h4, ih]
      simp [lowS, low8, hb]
    · simp only [cond_true, set_at]
      rw [ih]
      simp [lowS, low8, hb]
theorem fuel_gt {n : Nat} (h : n ≤ 1000000000) : n < FUEL := by unfold FUEL; omega
theorem e_r1_Lower (s : Str) (h : s.length ≤ 1000000000) : s_r1_Lower s = some (lowS s) := by
  unfold s_r1_Lower
  rw [bytO_eq (by omega)]
  have hx := r1_Lower_l1_eq s [] FUEL (fuel_gt h) h
  rw [nil_len, List.nil_append, List.nil_append] at hx
  exact hx

theorem e_dn_lower (c : UInt8) : s_dn_lower c = some (low8 c) := by
  unfold s_dn_lower low8
  rw [bifAnd]
  simp only [Option.bind_some]
  cases (decide (65 ≤ c) && decide (c ≤ 90)) <;> rfl
theorem dn_lowered_l1_eq (v1 : Str) : ∀ (t a : Str) (g : Nat), t.length < g → (a ++ t).length ≤ 1000000000 → v1.length = (a ++ t).length → dn_lowered_l1 v1 g (a.length : Int) (a ++ t) = some (a ++ lowS t)
  | [], a, g, hg, hl, hv => by
    obtain ⟨g, rfl⟩ := pos_of hg
    simp only [dn_lowered_l1, hv, at_e, cond_false, dn_lowered_k1, lowS, List.map_nil]
  | c :: t, a, g, hg, hl, hv => by
    obtain ⟨g, rfl⟩ := pos_of hg
    obtain ⟨h1, h2, h3, h4⟩ := at_c a c t hl
    simp only [dn_lowered_l1, hv, h1, h2, cond_true, Option.bind_some, e_dn_lower, h3, set_at]
    rw [len_snoc a c (low8 c), dn_lowered_l1_eq v1 t (a ++ [low8 c]) g (by simp at hg; omega) (by simpa using hl) (by simpa using hv)]
    simp [lowS]
theorem e_dn_lowered (s : Str) (h : s.length ≤ 1000000000) : s_dn_lowered s = some (lowS s) := by
  unfold s_dn_lowered
  rw [bytO_eq (by omega)]
  have hx := dn_lowered_l1_eq s s [] FUEL (fuel_gt h) h rfl
  rw [nil_len, List.nil_append, List.nil_append] at hx
  exact hx
theorem low8' (c : UInt8) : (bif decide (65 ≤ c) && decide (c ≤ 90) then c + 97 - 65 else c) = low8 c := by
  have := u8_every (p := fun c => (bif decide (65 ≤ c) && decide (c ≤ 90) then c + 97 - 65 else c) == low8 c) (by decide +kernel) c
  exact eq_of_beq this
theorem schema_lowered_l1_eq (v1 : Str) : ∀ (t a : Str) (g : Nat), t.length < g → (a ++ t).length ≤ 1000000000 → v1.length = (a ++ t).length → schema_lowered_l1 v1 g (a.length : Int) (a ++ t) = some (a ++ lowS t)
  | [], a, g, hg, hl, hv => by
    obtain ⟨g, rfl⟩ := pos_of hg
    simp only [schema_lowered_l1, hv, at_e, cond_false, schema_lowered_k1, lowS, List.map_nil]
  | c :: t, a, g, hg, hl, hv => by
    obtain ⟨g, rfl⟩ := pos_of hg
    obtain ⟨h1, h2, h3, h4⟩ := at_c a c t hl
    simp only [schema_lowered_l1, hv, h1, h2, cond_true, Option.bind_some, bifAnd, h3]
    have ih : ∀ x, schema_lowered_l1 v1 g ((a ++ [c]).length : Int) ((a ++ [x]) ++ t) = some ((a ++ [x]) ++ lowS t) := fun x => by
      rw [len_snoc a c x]; exact schema_lowered_l1_eq v1 t (a ++ [x]) g (by simp at hg; omega) (by simpa using hl) (by simpa using hv)
    have e := low8' c
    cases hb : (decide (65 ≤ c) && decide (c ≤ 90))
    · simp only [cond_false]
      rw [h4, ih]
      simp [lowS, low8, hb]
    · simp only [cond_true, set_at]
      rw [hb] at e
      rw [ih, show c + 97 - 65 = low8 c from e]
      simp [lowS]
theorem e_schema_lowered (s : Str) (h : s.length ≤ 1000000000) : s_schema_lowered s = some (lowS s) := by
  unfold s_schema_lowered
  rw [bytO_eq (by omega)]
  have hx := schema_lowered_l1_eq s s [] FUEL (fuel_gt h) h rfl
  rw [nil_len, List.nil_append, List.nil_append] at hx
  exact hx
theorem match_Canon_l1_eq (v1 : Str) : ∀ (t a : Str) (g : Nat), t.length < g → (a ++ t).length ≤ 1000000000 → v1.length = (a ++ t).length → match_Canon_l1 v1 g (a.length : Int) (a ++ t) = match_Canon_k1 (a ++ lowS t)
  | [], a, g, hg, hl, hv => by
    obtain ⟨g, rfl⟩ := pos_of hg
    simp only [match_Canon_l1, hv, at_e, cond_false, lowS, List.map_nil]
  | c :: t, a, g, hg, hl, hv => by
    obtain ⟨g, rfl⟩ := pos_of hg
    obtain ⟨h1, h2, h3, h4⟩ := at_c a c t hl
    simp only [match_Canon_l1, hv, h1, h2, cond_true, Option.bind_some, bifAnd, h3]
    have ih : ∀ x, match_Canon_l1 v1 g ((a ++ [c]).length : Int) ((a ++ [x]) ++ t) = match_Canon_k1 ((a ++ [x]) ++ lowS t) := fun x => by
      rw [len_snoc a c x]; exact match_Canon_l1_eq v1 t (a ++ [x]) g (by simp at hg; omega) (by simpa using hl) (by simpa using hv)
    have e := low8' c
    cases hb : (decide (65 ≤ c) && decide (c ≤ 90))
    · simp only [cond_false]
      rw [h4, ih]
      simp [lowS, low8, hb]
    · simp only [cond_true, set_at]
      rw [hb] at e
      rw [ih, show c + 97 - 65 = low8 c from e]
      simp [lowS]

/-! Types. -/
theorem e_r1_letter (c : UInt8) : s_r1_letter c = some (let8 c) := by
  have := u8_every (p := fun c => s_r1_letter c == some (let8 c)) (by decide +kernel) c
  exact eq_of_beq this
theorem e_dn_letter (c : UInt8) : s_dn_letter c = some (let8 c) := by
  have := u8_every (p := fun c => s_dn_letter c == some (let8 c)) (by decide +kernel) c
  exact eq_of_beq this
theorem r1_MayType_l1_eq : ∀ (t a : Str) (g : Nat), t.length < g → (a ++ t).length ≤ 1000000000 → r1_MayType_l1 (a ++ t) g (a.length : Int) = some (t.all typ8)
  | [], a, g, hg, hl => by
    obtain ⟨g, rfl⟩ := pos_of hg
    simp only [r1_MayType_l1, at_e, cond_false, r1_MayType_k1, List.all_nil]
  | c :: t, a, g, hg, hl => by
    obtain ⟨g, rfl⟩ := pos_of hg
    obtain ⟨h1, h2, h3, h4⟩ := at_c a c t hl
    have hc : ((bif !let8 c then (bif decide (c < 48) then some (c != 45) else bif decide (57 < c) then some (c != 45) else some false) else some false) : Option Bool) = some (!typ8 c) := by
      have := u8_every (p := fun c => ((bif !let8 c then (bif decide (c < 48) then some (c != 45) else bif decide (57 < c) then some (c != 45) else some false) else some false) : Option Bool) == some (!typ8 c)) (by decide +kernel) c
      exact eq_of_beq this
    simp only [r1_MayType_l1, h1, h2, cond_true, Option.bind_some, e_r1_letter, hc, h3]
    rw [h4, r1_MayType_l1_eq t (a ++ [c]) g (by simp at hg; omega) (by simpa using hl)]
    cases hb : typ8 c <;> simp [hb]
theorem e_r1_MayType (s : Str) (h : s.length ≤ 1000000000) : s_r1_MayType s = some (mayT s) := by
  cases s with
  | nil => rfl
  | cons c t =>
    have hx := r1_MayType_l1_eq (c :: t) [] FUEL (fuel_gt h) h
    rw [nil_len, List.nil_append] at hx
    have hg : lgetO (c :: t) 0 = some c := rfl
    unfold s_r1_MayType
    simp only [hg, Option.bind_some, e_r1_letter]
    rw [hx]
    unfold mayT
    have e : decide (((c :: t).length : Int) > 30) = !decide ((c :: t).length ≤ 30) := by
      by_cases h0 : (c :: t).length ≤ 30
      · rw [decide_eq_true h0, decide_eq_false (by omega)]; rfl
      · rw [decide_eq_false h0, decide_eq_true (by omega)]; rfl
    rw [e, show ((c :: t) == ([] : Str)) = false from rfl]
    simp only [cond_false]
    cases decide ((c :: t).length ≤ 30) <;> cases let8 c <;> simp
theorem dn_typed_l1_eq : ∀ (t a : Str) (g : Nat), t.length < g → (a ++ t).length ≤ 1000000000 → dn_typed_l1 (a ++ t) g (a.length : Int) = some (t.all typ8)
  | [], a, g, hg, hl => by
    obtain ⟨g, rfl⟩ := pos_of hg
    simp only [dn_typed_l1, at_e, cond_false, dn_typed_k1, List.all_nil]
  | c :: t, a, g, hg, hl => by
    obtain ⟨g, rfl⟩ := pos_of hg
    obtain ⟨h1, h2, h3, h4⟩ := at_c a c t hl
    have hc : ((bif !let8 c then (bif decide (48 ≤ c) then bif !(decide (c ≤ 57)) then some (c != 45) else some false else some (c != 45)) else some false) : Option Bool) = some (!typ8 c) := by
      have := u8_every (p := fun c => ((bif !let8 c then (bif decide (48 ≤ c) then bif !(decide (c ≤ 57)) then some (c != 45) else some false else some (c != 45)) else some false) : Option Bool) == some (!typ8 c)) (by decide +kernel) c
      exact eq_of_beq this
    simp only [dn_typed_l1, h1, h2, cond_true, Option.bind_some, e_dn_letter, hc, h3]
    rw [h4, dn_typed_l1_eq t (a ++ [c]) g (by simp at hg; omega) (by simpa using hl)]
    cases hb : typ8 c <;> simp [hb]
theorem e_dn_typed (s : Str) (h : s.length ≤ 1000000000) : s_dn_typed s = some (mayT s) := by
  cases s with
  | nil => rfl
  | cons c t =>
    have hx := dn_typed_l1_eq (c :: t) [] FUEL (fuel_gt h) h
    rw [nil_len, List.nil_append] at hx
    have hg : lgetO (c :: t) 0 = some c := rfl
    unfold s_dn_typed
    simp only [hg, Option.bind_some, e_dn_letter, bytO_eq (show (c :: t).length ≤ 9223372036854775807 by omega)]
    rw [hx]
    unfold mayT
    have e : decide (((c :: t).length : Int) > 30) = !decide ((c :: t).length ≤ 30) := by
      by_cases h0 : (c :: t).length ≤ 30
      · rw [decide_eq_true h0, decide_eq_false (by omega)]; rfl
      · rw [decide_eq_false h0, decide_eq_true (by omega)]; rfl
    rw [e, show ((c :: t) == ([] : Str)) = false from rfl]
    simp only [cond_false]
    cases decide ((c :: t).length ≤ 30) <;> cases let8 c <;> simp
end Go.Ka
namespace Go.Ka
set_option maxRecDepth 100000

/-! Folding. -/
/-- What is written, and whether a gap is open. -/
def foldG : Str → Bool → Str → Str × Bool
  | o, g, [] => (o, g)
  | o, g, c :: t => if c = 32 then foldG o (!(o == [])) t else foldG (o ++ (bif g then [32, c] else [c])) false t
def foldS (s : Str) : Str := (foldG [] false (lowS s)).1
theorem foldG_cons (o : Str) (g : Bool) (c : UInt8) (t : Str) : foldG o g (c :: t) = if c = 32 then foldG o (!(o == [])) t else foldG (o ++ (bif g then [32, c] else [c])) false t := rfl
theorem takeWhile_all {p : UInt8 → Bool} : ∀ (l : Str), ∀ b ∈ l.takeWhile p, p b = true
  | [], b, h => by simp at h
  | c :: l, b, h => by
    cases hc : p c
    · simp [List.takeWhile_cons, hc] at h
    · simp [List.takeWhile_cons, hc] at h
      rcases h with rfl | h
      · exact hc
      · exact takeWhile_all l b h
theorem foldG_len : ∀ (t o : Str) (g : Bool), (foldG o g t).1.length ≤ o.length + 2 * t.length
  | [], o, g => by simp [foldG]
  | c :: t, o, g => by
    unfold foldG
    split
    · have := foldG_len t o (!(o == [])); rw [List.length_cons]; omega
    · have := foldG_len t (o ++ (bif g then [32, c] else [c])) false
      cases g <;> simp at this ⊢ <;> omega
theorem sub_at (a : Str) (c : UInt8) (t : Str) (h : (a ++ c :: t).length ≤ 1000000000) : lsubO (a ++ c :: t) (a.length : Int) ((a ++ [c]).length : Int) = some [c] := by
  rw [lsubO_eq (by simp at h ⊢; omega)]
  simp
theorem r1_Fold_l1_eq : ∀ (t a o : Str) (k : Bool) (g : Nat), t.length < g → (a ++ t).length ≤ 100000000 → o.length ≤ 2 * a.length → r1_Fold_l1 (a ++ t) g o k (a.length : Int) = some (foldG o k t).1
  | [], a, o, k, g, hg, hl, ho => by
    obtain ⟨g, rfl⟩ := pos_of hg
    simp only [r1_Fold_l1, at_e, cond_false, r1_Fold_k1, foldG]
  | c :: t, a, o, k, g, hg, hl, ho => by
    obtain ⟨g, rfl⟩ := pos_of hg
    obtain ⟨h1, h2, h3, h4⟩ := at_c a c t (by omega)
    have hs := sub_at a c t (by omega)
    have hl' := hl
    simp only [List.length_append, List.length_cons] at hl
    have ih : ∀ o' k', o'.length ≤ 2 * (a ++ [c]).length → r1_Fold_l1 (a ++ c :: t) g o' k' ((a ++ [c]).length : Int) = some (foldG o' k' t).1 := fun o' k' h => by
      rw [h4]; exact r1_Fold_l1_eq t (a ++ [c]) o' k' g (by simp at hg; omega) (by rw [← h4]; exact hl') h
    have e1 : catO o k_x20 = some (o ++ [32]) := catO_eq (by simp; omega)
    have e2 : catO (o ++ [32]) [c] = some (o ++ [32] ++ [c]) := catO_eq (by simp; omega)
    have e3 : catO o [c] = some (o ++ [c]) := catO_eq (by simp; omega)
    simp only [r1_Fold_l1, h1, h2, cond_true, Option.bind_some, h3, hs, e1, e2, e3]
    by_cases hc : c = 32
    · rw [show (c == 32) = true by simp [hc]]
      simp only [cond_true]
      rw [ih _ _ (by simp; omega)]
      conv => rhs; unfold foldG
      rw [if_pos hc]
    · rw [show (c == 32) = false by simp [hc]]
      conv => rhs; unfold foldG
      rw [if_neg hc]
      cases k
      · simp only [cond_false]
        rw [ih _ _ (by simp; omega)]
      · simp only [cond_false, cond_true]
        rw [ih _ _ (by simp; omega)]
        simp
theorem e_r1_Fold (s : Str) (h : s.length ≤ 100000000) : s_r1_Fold s = some (foldS s) := by
  unfold s_r1_Fold foldS
  rw [e_r1_Lower s (by omega)]
  have := r1_Fold_l1_eq (lowS s) [] [] false FUEL (fuel_gt (by simp; omega)) (by simpa using h) (by simp)
  rw [nil_len, List.nil_append] at this
  exact this
/-- The program's own: a blank behind a blank is left out. -/
def foldP : Str → Str → Str
  | o, [] => o
  | o, c :: t => if c = 32 ∧ o.getLast? = some 32 then foldP o t else foldP (o ++ [c]) t
theorem dn_Fold_l1_eq : ∀ (t a o : Str) (g : Nat), t.length < g → (a ++ t).length ≤ 100000000 → o.length ≤ a.length → (o = [] → t.head? ≠ some 32) → dn_Fold_l1 (a ++ t) g (a.length : Int) o = some (foldP o t)
  | [], a, o, g, hg, hl, ho, hn => by
    obtain ⟨g, rfl⟩ := pos_of hg
    simp only [dn_Fold_l1, at_e, cond_false, dn_Fold_k1, foldP]
  | c :: t, a, o, g, hg, hl, ho, hn => by
    obtain ⟨g, rfl⟩ := pos_of hg
    obtain ⟨h1, h2, h3, h4⟩ := at_c a c t (by omega)
    have hl' := hl
    simp only [List.length_append, List.length_cons] at hl
    have ih : ∀ o', o'.length ≤ (a ++ [c]).length → o' ≠ [] → dn_Fold_l1 (a ++ c :: t) g ((a ++ [c]).length : Int) o' = some (foldP o' t) := fun o' h h0 => by
      rw [h4]; exact dn_Fold_l1_eq t (a ++ [c]) o' g (by simp at hg; omega) (by rw [← h4]; exact hl') h (fun h => absurd h h0)
    have e3 : appO 1 o [c] = some (o ++ [c]) := appO_eq (by simp; omega)
    have hb : ((bif c == 32 then (subO (o.length : Int) 1).bind fun v60 => (lgetO o v60).bind fun v61 => some (v61 == 32) else some false) : Option Bool) = some (decide (c = 32 ∧ o.getLast? = some 32)) := by
      by_cases hc : c = 32
      · subst hc
        have h0 : o ≠ [] := fun h => hn h rfl
        obtain ⟨x, y, rfl⟩ : ∃ x y, o = x ++ [y] := ⟨o.dropLast, o.getLast h0, (List.dropLast_concat_getLast h0).symm⟩
        have ho2 : (x ++ [y]).length ≤ 100000000 := by omega
        rw [show ((32 : UInt8) == 32) = true from rfl, cond_true, subO_eq (show -9223372036854775808 ≤ ((x ++ [y]).length : Int) - 1 ∧ ((x ++ [y]).length : Int) - 1 < 9223372036854775808 by omega)]
        simp only [Option.bind_some]
        have : lgetO (x ++ [y]) (((x ++ [y]).length : Int) - 1) = some y := by
          rw [show (((x ++ [y]).length : Int) - 1) = (x.length : Int) by simp, lgetO_nat]; simp
        rw [this]
        simp only [Option.bind_some]
        by_cases hy : y = 32 <;> simp [hy]
      · rw [show (c == 32) = false by simp [hc]]
        simp [hc]
    simp only [dn_Fold_l1, h1, h2, cond_true, Option.bind_some, h3, hb, e3]
    unfold foldP
    by_cases hx : c = 32 ∧ o.getLast? = some 32
    · rw [if_pos hx, decide_eq_true hx, cond_true, ih o (by simp; omega) (fun h => by simp [h] at hx)]
    · rw [if_neg hx, decide_eq_false hx, cond_false, ih (o ++ [c]) (by simp; omega) (by simp)]
theorem foldP_foldG : ∀ (t o : Str) (g : Bool), (o = [] → t.head? ≠ some 32) → (o = [] → g = false) → o.getLast? ≠ some 32 →
    foldP (o ++ (bif g then [32] else [])) t = (foldG o g t).1 ++ (bif (foldG o g t).2 then [32] else [])
  | [], o, g, h1, h2, h3 => by simp [foldP, foldG]
  | c :: t, o, g, h1, h2, h3 => by
    unfold foldP foldG
    by_cases hc : c = 32
    · subst hc
      have h0 : o ≠ [] := fun h => h1 h rfl
      have hb : (!(o == [])) = true := by cases o <;> simp at h0 ⊢
      cases g
      · rw [if_neg (by simp; exact h3), if_pos rfl, hb]
        have := foldP_foldG t o true (fun h => absurd h h0) (fun h => absurd h h0) h3
        simpa using this
      · rw [if_pos (by simp), if_pos rfl, hb]
        exact foldP_foldG t o true (fun h => absurd h h0) (fun h => absurd h h0) h3
    · rw [if_neg (fun h => hc h.1), if_neg hc]
      have := foldP_foldG t (o ++ (bif g then [32, c] else [c])) false (fun h => by cases g <;> simp at h) (fun _ => rfl) (by cases g <;> simp [hc])
      rw [cond_false, List.append_nil] at this
      rw [← this]
      congr 1
      cases g <;> simp
/-- Blanks ahead change nothing; behind neither. -/
theorem foldG_ahead (g : Bool) (hg : g = false) : ∀ (t : Str), foldG [] g t = foldG [] g (t.dropWhile (· == 32))
  | [] => rfl
  | c :: t => by
    subst hg
    by_cases hc : c = 32
    · subst hc
      rw [show (List.dropWhile (· == 32) ((32 : UInt8) :: t)) = t.dropWhile (· == 32) from rfl, ← foldG_ahead false rfl t]
      conv => lhs; unfold foldG
      simp
    · rw [List.dropWhile_cons_of_neg (by simpa using hc)]
theorem foldG_append : ∀ (t u o : Str) (g : Bool), foldG o g (t ++ u) = foldG (foldG o g t).1 (foldG o g t).2 u
  | [], u, o, g => rfl
  | c :: t, u, o, g => by
    rw [List.cons_append, foldG_cons, foldG_cons]
    split
    · exact foldG_append t u _ _
    · exact foldG_append t u _ _
theorem foldG_blanks : ∀ (u o : Str) (g : Bool), (∀ b ∈ u, b = 32) → (foldG o g u).1 = o
  | [], o, g, h => rfl
  | c :: u, o, g, h => by
    unfold foldG
    rw [if_pos (h c (by simp))]
    exact foldG_blanks u o _ fun b hb => h b (by simp [hb])
/-- Behind a byte that is none no gap is open. -/
theorem foldG_last (t : Str) (c : UInt8) (o : Str) (g : Bool) (hc : c ≠ 32) : (foldG o g (t ++ [c])).2 = false := by
  rw [foldG_append]
  simp [foldG, hc]
theorem split_right (s : Str) : ∃ u, s = Lib.trimRightB s 32 ++ u ∧ (∀ b ∈ u, b = 32) ∧ (Lib.trimRightB s 32).getLast? ≠ some 32 := by
  refine ⟨(s.reverse.takeWhile (· == 32)).reverse, ?_, ?_, ?_⟩
  · unfold Lib.trimRightB
    rw [← List.reverse_append, List.takeWhile_append_dropWhile, List.reverse_reverse]
  · intro b hb
    have := takeWhile_all _ _ (List.mem_reverse.1 hb)
    simpa using this
  · unfold Lib.trimRightB
    rw [List.getLast?_reverse]
    intro h
    have := List.head?_dropWhile_not (p := fun b : UInt8 => b == 32) s.reverse
    rw [h] at this
    simp at this
theorem lowS_app (a b : Str) : lowS (a ++ b) = lowS a ++ lowS b := by simp [lowS]
theorem low8_32 (c : UInt8) : low8 c = 32 ↔ c = 32 := by
  have := u8_every (p := fun c => (low8 c == 32) == (c == 32)) (by decide +kernel) c
  simp at this
  constructor
  · intro h; simpa [h] using this
  · rintro rfl; decide
theorem lowS_drop : ∀ (s : Str), lowS (s.dropWhile (· == 32)) = (lowS s).dropWhile (· == 32)
  | [] => rfl
  | c :: s => by
    by_cases hc : c = 32
    · subst hc
      exact lowS_drop s
    · rw [List.dropWhile_cons_of_neg (by simpa using hc)]
      show lowS (c :: s) = List.dropWhile _ (low8 c :: lowS s)
      rw [List.dropWhile_cons_of_neg (by simpa [low8_32] using hc)]
      rfl
theorem head_drop (s : Str) : (s.dropWhile (· == 32)).head? ≠ some 32 := by
  intro h
  have := List.head?_dropWhile_not (p := fun b : UInt8 => b == 32) s
  rw [h] at this
  simp at this
theorem getLast_drop {s : Str} (h : s.getLast? ≠ some 32) : ∀ (x : UInt8), (s.dropWhile (· == 32)).getLast? = some x → x ≠ 32 := by
  induction s with
  | nil => intro x hx; simp at hx
  | cons c s ih =>
    intro x hx
    by_cases hc : c = 32
    · subst hc
      rw [List.dropWhile_cons_of_pos (by simp)] at hx
      cases s with
      | nil => simp at hx
      | cons d s => exact ih (by simpa using h) x hx
    · rw [List.dropWhile_cons_of_neg (by simpa using hc)] at hx
      rintro rfl
      exact h hx
theorem foldP_foldS (s : Str) : foldP [] (lowS (Lib.trimB s 32)) = foldS s := by
  obtain ⟨u, hs, hu, hr⟩ := split_right s
  unfold Lib.trimB Lib.trimLeftB
  generalize Lib.trimRightB s 32 = r at hs hr
  have hd := getLast_drop hr
  rw [lowS_drop]
  have hh := head_drop (lowS r)
  have e := foldP_foldG ((lowS r).dropWhile (· == 32)) [] false (fun _ => hh) (fun _ => rfl) (by simp)
  rw [← foldG_ahead false rfl] at e
  rw [show ([] : Str) ++ (bif false then [32] else []) = [] from rfl] at e
  rw [e]
  have hg : (foldG [] false (lowS r)).2 = false := by
    by_cases h0 : r = []
    · subst h0; rfl
    · obtain ⟨x, y, rfl⟩ : ∃ x y, r = x ++ [y] := ⟨r.dropLast, r.getLast h0, (List.dropLast_concat_getLast h0).symm⟩
      rw [lowS_app]
      exact foldG_last _ _ _ _ (by simpa [low8_32] using hr)
  rw [hg, cond_false, List.append_nil]
  unfold foldS
  rw [hs, lowS_app, foldG_append]
  refine (foldG_blanks _ _ _ ?_).symm
  intro b hb
  simp only [lowS, List.mem_map] at hb
  obtain ⟨x, hx, rfl⟩ := hb
  exact (low8_32 x).2 (hu x hx)
theorem trimB_len (s : Str) : (Lib.trimB s 32).length ≤ s.length := by
  unfold Lib.trimB Lib.trimLeftB Lib.trimRightB
  have h1 := (List.dropWhile_sublist (fun b : UInt8 => b == 32) (l := (s.reverse.dropWhile (· == 32)).reverse)).length_le
  have h2 := (List.dropWhile_sublist (fun b : UInt8 => b == 32) (l := s.reverse)).length_le
  simp at h1 h2
  omega
theorem e_dn_Fold (s : Str) (h : s.length ≤ 100000000) : s_dn_Fold s = some (foldS s) := by
  have hl := trimB_len s
  have ht : s_trim s k_x20 = some (Lib.trimB s 32) := okO_eq (by simp; omega)
  unfold s_dn_Fold
  rw [ht]
  simp only [Option.bind_some]
  rw [e_dn_lowered _ (by omega)]
  simp only [Option.bind_some]
  rw [bytO_eq (by simp; omega)]
  simp only [Option.bind_some]
  have hh : (lowS (Lib.trimB s 32)).head? ≠ some 32 := by unfold Lib.trimB Lib.trimLeftB; rw [lowS_drop]; exact head_drop _
  have := dn_Fold_l1_eq (lowS (Lib.trimB s 32)) [] [] FUEL (fuel_gt (by simp; omega)) (by simp; omega) (by simp) (fun _ => hh)
  rw [foldP_foldS, nil_len, List.nil_append] at this
  exact this
end Go.Ka
namespace Go.Ka
set_option maxRecDepth 100000

def hx (n : UInt8) : UInt8 := (k_0123456789abcdef[n.toNat]?).getD 0
def two8 (c : UInt8) : Str := [92, hx (c / 16), hx (c % 16)]
def spc8 (c : UInt8) : Bool := k_x2c2b225c3c3e3b.any (· == c)
def odd8 (c : UInt8) : Bool := decide (c < 32) || decide (126 < c)
/-- A byte of a value, as a name has it: the first one, the last one. -/
def escC (f l : Bool) (c : UInt8) : Str := bif odd8 c then two8 c else bif spc8 c || (f && (c == 35 || c == 32)) || (l && c == 32) then [92, c] else [c]
def escG : Bool → Str → Str
  | _, [] => []
  | f, c :: t => escC f t.isEmpty c ++ escG false t
def escS (s : Str) : Str := escG true s
def textG : Bool → List T_Rdn → Str
  | _, [] => []
  | f, r :: l => (bif f then [] else [44]) ++ (r.Typ ++ ([61] ++ (escS r.Val ++ textG false l)))
def textS (l : List T_Rdn) : Str := textG true l
theorem escG_cons (f : Bool) (c : UInt8) (t : Str) : escG f (c :: t) = escC f t.isEmpty c ++ escG false t := rfl
theorem escC_len (f l : Bool) (c : UInt8) : (escC f l c).length ≤ 3 := by
  unfold escC two8
  cases odd8 c <;> cases (spc8 c || (f && (c == 35 || c == 32)) || (l && c == 32)) <;> simp
theorem escG_len : ∀ (t : Str) (f : Bool), (escG f t).length ≤ 3 * t.length
  | [], f => by simp [escG]
  | c :: t, f => by
    have := escG_len t false
    have := escC_len f t.isEmpty c
    simp [escG]; omega
theorem escS_len (s : Str) : (escS s).length ≤ 3 * s.length := escG_len s true

theorem e_r1_two (c : UInt8) : s_r1_two c = some (two8 c) := by
  have := u8_every (p := fun c => s_r1_two c == some (two8 c)) (by decide +kernel) c
  exact eq_of_beq this
theorem r1_in_l1_eq (c : UInt8) : ∀ (t a : Str) (g : Nat), t.length < g → (a ++ t).length ≤ 1000000000 → r1_in_l1 (a ++ t) c g (a.length : Int) = some (t.any (· == c))
  | [], a, g, hg, hl => by
    obtain ⟨g, rfl⟩ := pos_of hg
    simp only [r1_in_l1, at_e, cond_false, r1_in_k1, List.any_nil]
  | d :: t, a, g, hg, hl => by
    obtain ⟨g, rfl⟩ := pos_of hg
    obtain ⟨h1, h2, h3, h4⟩ := at_c a d t hl
    simp only [r1_in_l1, h1, h2, cond_true, Option.bind_some, h3]
    rw [h4, r1_in_l1_eq c t (a ++ [d]) g (by simp at hg; omega) (by simpa using hl)]
    cases hb : d == c <;> simp [hb]
theorem e_r1_in (s : Str) (c : UInt8) (h : s.length ≤ 1000000000) : s_r1_in s c = some (s.any (· == c)) := by
  have := r1_in_l1_eq c s [] FUEL (fuel_gt h) h
  rw [nil_len, List.nil_append] at this
  exact this
theorem snoc_empty {α : Type} (a : List α) (c : α) : (a ++ [c]).isEmpty = false := by cases a <;> rfl
theorem last_at (a : Str) (c : UInt8) (t : Str) : ((a.length : Int) == ((a ++ c :: t).length : Int) - 1) = t.isEmpty := by
  cases t with
  | nil => simp
  | cons d t =>
    simp only [List.isEmpty_cons, beq_eq_false_iff_ne]
    simp
    omega
theorem first_at0 (a : Str) : ((a.length : Int) == 0) = a.isEmpty := by
  cases a with
  | nil => rfl
  | cons d t =>
    simp only [List.isEmpty_cons, beq_eq_false_iff_ne]
    simp
    omega
theorem r1_escaped_l1_eq : ∀ (t a o : Str) (g : Nat), t.length < g → (a ++ t).length ≤ 100000000 → o.length ≤ 1000000000 + 3 * a.length → r1_escaped_l1 (a ++ t) g o (a.length : Int) = some (o ++ escG a.isEmpty t)
  | [], a, o, g, hg, hl, ho => by
    obtain ⟨g, rfl⟩ := pos_of hg
    simp only [r1_escaped_l1, at_e, cond_false, r1_escaped_k1, escG]
    rw [List.append_nil]
  | c :: t, a, o, g, hg, hl, ho => by
    obtain ⟨g, rfl⟩ := pos_of hg
    obtain ⟨h1, h2, h3, h4⟩ := at_c a c t (by omega)
    have hs := sub_at a c t (by omega)
    have hl' := hl
    have hlast := last_at a c t
    simp only [List.length_append, List.length_cons] at hl
    have ih : ∀ o', o'.length ≤ o.length + 3 → r1_escaped_l1 (a ++ c :: t) g o' ((a ++ [c]).length : Int) = some (o' ++ escG false t) := fun o' h => by
      rw [h4, r1_escaped_l1_eq t (a ++ [c]) o' g (by simp at hg; omega) (by rw [← h4]; exact hl') (by simp; omega), snoc_empty]
    have es : subO ((a ++ c :: t).length : Int) 1 = some (((a ++ c :: t).length : Int) - 1) := subO_eq (by simp; omega)
    have e1 : catO o (two8 c) = some (o ++ two8 c) := catO_eq (by simp [two8]; omega)
    have e2 : catO o k_x5c = some (o ++ [92]) := catO_eq (by simp; omega)
    have e3 : catO (o ++ [92]) [c] = some (o ++ [92] ++ [c]) := catO_eq (by simp; omega)
    have e4 : catO o [c] = some (o ++ [c]) := catO_eq (by simp; omega)
    have ei : s_r1_in k_x2c2b225c3c3e3b c = some (spc8 c) := e_r1_in _ _ (by decide)
    simp only [r1_escaped_l1, h1, h2, cond_true, Option.bind_some, h3, hs, es, e1, e2, e3, e4, ei, e_r1_two, bifOr, first_at0, hlast]
    rw [ih _ (by simp [two8]), ih _ (by simp), ih _ (by simp)]
    have hx : ((bif spc8 c then some true else bif a.isEmpty then bif c == 35 then some true else bif c == 32 then some true else bif t.isEmpty then some (c == 32) else some false else bif t.isEmpty then some (c == 32) else some false) : Option Bool) = some (spc8 c || (a.isEmpty && (c == 35 || c == 32)) || (t.isEmpty && c == 32)) := by
      cases spc8 c <;> cases a.isEmpty <;> cases c == 35 <;> cases c == 32 <;> cases t.isEmpty <;> rfl
    rw [hx]
    simp only [Option.bind_some]
    rw [escG_cons]
    unfold escC
    rw [show (decide (c < 32) || decide (126 < c)) = odd8 c from rfl]
    cases odd8 c <;> cases (spc8 c || (a.isEmpty && (c == 35 || c == 32)) || (t.isEmpty && c == 32)) <;> simp
theorem e_r1_escaped (s : Str) (h : s.length ≤ 100000000) : s_r1_escaped s = some (escS s) := by
  have := r1_escaped_l1_eq s [] [] FUEL (fuel_gt (by omega)) h (by simp)
  rw [nil_len, List.nil_append, List.nil_append] at this
  exact this
/-- How long a list's names are. -/
def rdnsLen (l : List T_Rdn) : Nat := (l.map fun r => r.Typ.length + 3 * r.Val.length + 2).sum
theorem textG_len : ∀ (l : List T_Rdn) (f : Bool), (textG f l).length ≤ rdnsLen l
  | [], f => by simp [textG, rdnsLen]
  | r :: l, f => by
    have h1 := textG_len l false
    have h2 := escS_len r.Val
    unfold textG
    simp only [rdnsLen, List.map_cons, List.sum_cons] at h1 ⊢
    cases f <;> simp <;> omega
theorem e_r1_TextDn_k2 (p0 : List T_Rdn) (i : Int) (K : Str → Int → Option Str) (o : Str) (r : T_Rdn) (j : Int) (hr : lgetO p0 i = some r) (hj : addO i 1 = some j) (hl : o.length + r.Typ.length + 3 * r.Val.length ≤ 100000000) :
    r1_TextDn_k2 p0 i K o = K (o ++ (r.Typ ++ ([61] ++ escS r.Val))) j := by
  have h := escS_len r.Val
  unfold r1_TextDn_k2
  simp only [hr, Option.bind_some, catO_eq (show o.length + r.Typ.length ≤ 9223372036854775807 by omega), catO_eq (show (o ++ r.Typ).length + k_x3d.length ≤ 9223372036854775807 by simp; omega), e_r1_escaped r.Val (by omega),
    catO_eq (show (o ++ r.Typ ++ k_x3d).length + (escS r.Val).length ≤ 9223372036854775807 by simp; omega), hj]
  simp
theorem r1_TextDn_l1_eq : ∀ (t a : List T_Rdn) (o : Str) (g : Nat), t.length < g → (a ++ t).length ≤ 1000000000 → o.length + rdnsLen t ≤ 100000000 → r1_TextDn_l1 (a ++ t) g o (a.length : Int) = some (o ++ textG a.isEmpty t)
  | [], a, o, g, hg, hl, ho => by
    obtain ⟨g, rfl⟩ := pos_of hg
    simp only [r1_TextDn_l1, at_e, cond_false, r1_TextDn_k1, textG]
    rw [List.append_nil]
  | c :: t, a, o, g, hg, hl, ho => by
    obtain ⟨g, rfl⟩ := pos_of hg
    obtain ⟨h1, h2, h3, h4⟩ := at_c a c t hl
    simp only [rdnsLen, List.map_cons, List.sum_cons] at ho
    have hes := escS_len c.Val
    have ih : ∀ o', o'.length + rdnsLen t ≤ 100000000 → r1_TextDn_l1 (a ++ c :: t) g o' ((a ++ [c]).length : Int) = some (o' ++ textG false t) := fun o' h => by
      rw [h4, r1_TextDn_l1_eq t (a ++ [c]) o' g (by simp at hg; omega) (by rw [← h4]; exact hl) h, snoc_empty]
    simp only [r1_TextDn_l1, h1, cond_true]
    cases a with
    | nil =>
      rw [show decide ((([] : List T_Rdn).length : Int) > 0) = false from rfl]
      simp only [cond_false]
      rw [e_r1_TextDn_k2 _ _ _ o c _ h2 h3 (by omega), ih _ (by simp [rdnsLen]; omega)]
      simp [textG]
    | cons b a =>
      rw [show decide ((((b :: a).length : Nat) : Int) > 0) = true from decide_eq_true (by simp only [List.length_cons]; omega)]
      simp only [cond_true, catO_eq (show o.length + k_x2c.length ≤ 9223372036854775807 by simp; omega), Option.bind_some]
      rw [e_r1_TextDn_k2 _ _ _ _ c _ h2 h3 (by simp; omega), ih _ (by simp [rdnsLen]; omega)]
      simp [textG]
theorem e_r1_TextDn (l : List T_Rdn) (h : rdnsLen l ≤ 100000000) (hl : l.length ≤ 1000000000) : s_r1_TextDn l = some (textS l) := by
  have := r1_TextDn_l1_eq l [] [] FUEL (fuel_gt hl) hl (by simpa using h)
  rw [nil_len, List.nil_append, List.nil_append] at this
  exact this

/-! The program's. -/
theorem e_dn_special (c : UInt8) : s_dn_special c = some (spc8 c) := by
  have := u8_every (p := fun c => s_dn_special c == some (spc8 c)) (by decide +kernel) c
  exact eq_of_beq this
theorem e_WB (o : Str) (c : UInt8) (h : o.length ≤ 1000000000) : s_strings_Builder_WriteByte o c = some (o ++ [c], false) := by
  unfold s_strings_Builder_WriteByte
  rw [appO_eq (by simp; omega)]
  rfl
theorem e_W (o x : Str) (h : o.length + x.length ≤ 1000000000) : s_strings_Builder_Write o x = some (o ++ x, (x.length : Int), false) := by
  unfold s_strings_Builder_Write
  rw [appO_eq (by omega)]
  rfl
theorem e_WS (o x : Str) (h : o.length + x.length ≤ 1000000000) : s_strings_Builder_WriteString o x = some (o ++ x, (x.length : Int), false) := by
  unfold s_strings_Builder_WriteString
  rw [appO_eq (by omega)]
  rfl
theorem e_BS (o : Str) (h : o.length ≤ 1000000000) : s_strings_Builder_String o = some o := by
  unfold s_strings_Builder_String lenO
  rw [okO_eq (by simp; omega)]
  rfl
theorem dn_two (c : UInt8) : ((shU .shr c 4).bind fun v2385 => (lgetO k_0123456789abcdef (v2385.toNat : Int)).bind fun v2386 => (lgetO k_0123456789abcdef ((c &&& 15).toNat : Int)).bind fun v2387 => some ([92, v2386, v2387] : Str)) = some (two8 c) := by
  have := u8_every (p := fun c => ((shU .shr c 4).bind fun v2385 => (lgetO k_0123456789abcdef (v2385.toNat : Int)).bind fun v2386 => (lgetO k_0123456789abcdef ((c &&& 15).toNat : Int)).bind fun v2387 => some ([92, v2386, v2387] : Str)) == some (two8 c)) (by decide +kernel) c
  exact eq_of_beq this
theorem dn_two' {α : Type} (c : UInt8) (f : Str → Option α) : ((shU .shr c 4).bind fun v2385 => (lgetO k_0123456789abcdef (v2385.toNat : Int)).bind fun v2386 => (lgetO k_0123456789abcdef ((c &&& 15).toNat : Int)).bind fun v2387 => f ([92, v2386, v2387] : Str)) = f (two8 c) := by
  have h := congrArg (fun o : Option Str => o.bind f) (dn_two c)
  simpa only [Option.bind_assoc, Option.bind_some] using h
theorem dn_Text_l2_eq (i : Int) (K : Int → Str → Option Str) (ty : Str) : ∀ (t a o : Str) (g : Nat), t.length < g → (a ++ t).length ≤ 100000000 → o.length ≤ 100000000 + 3 * a.length →
    dn_Text_l2 i K ⟨ty, a ++ t⟩ g (a.length : Int) o = dn_Text_k4 i K (o ++ escG a.isEmpty t)
  | [], a, o, g, hg, hl, ho => by
    obtain ⟨g, rfl⟩ := pos_of hg
    simp only [dn_Text_l2, at_e, cond_false, escG]
    rw [List.append_nil]
  | c :: t, a, o, g, hg, hl, ho => by
    obtain ⟨g, rfl⟩ := pos_of hg
    obtain ⟨h1, h2, h3, h4⟩ := at_c a c t (by omega)
    have hl' := hl
    have hlast := last_at a c t
    simp only [List.length_append, List.length_cons] at hl
    have ih : ∀ o', o'.length ≤ o.length + 3 → dn_Text_l2 i K ⟨ty, a ++ c :: t⟩ g ((a ++ [c]).length : Int) o' = dn_Text_k4 i K (o' ++ escG false t) := fun o' h => by
      rw [h4, dn_Text_l2_eq i K ty t (a ++ [c]) o' g (by simp at hg; omega) (by rw [← h4]; exact hl') (by simp; omega), snoc_empty]
    have es : subO ((a ++ c :: t).length : Int) 1 = some (((a ++ c :: t).length : Int) - 1) := subO_eq (by simp; omega)
    have e1 : s_strings_Builder_Write o (two8 c) = some (o ++ two8 c, ((two8 c).length : Int), false) := e_W _ _ (by simp [two8]; omega)
    have e2 : s_strings_Builder_WriteByte o 92 = some (o ++ [92], false) := e_WB _ _ (by omega)
    have e3 : s_strings_Builder_WriteByte (o ++ [92]) c = some (o ++ [92] ++ [c], false) := e_WB _ _ (by simp; omega)
    have e4 : s_strings_Builder_WriteByte o c = some (o ++ [c], false) := e_WB _ _ (by omega)
    simp only [dn_Text_l2, h1, h2, cond_true, Option.bind_some, h3, es, e2, e3, e4, e_dn_special, bifOr, first_at0, hlast, bifAnd]
    rw [dn_two' c (fun x => (s_strings_Builder_Write o x).bind fun v2388 => dn_Text_l2 i K ⟨ty, a ++ c :: t⟩ g ((a ++ [c]).length : Int) v2388.1), e1]
    simp only [Option.bind_some]
    rw [ih _ (by simp [two8]), ih _ (by simp), ih _ (by simp)]
    rw [escG_cons]
    unfold escC
    rw [show (decide (c < 32) || decide (126 < c)) = odd8 c from rfl]
    cases odd8 c <;> cases spc8 c <;> cases a.isEmpty <;> cases c == 35 <;> cases c == 32 <;> cases t.isEmpty <;> simp
theorem dn_Text_k3_eq (i : Int) (K : Int → Str → Option Str) (r : T_Rdn) (o : Str) (j : Int) (hj : addO i 1 = some j) (hl : o.length + r.Typ.length + 3 * r.Val.length ≤ 10000000) :
    dn_Text_k3 i K r o = K j (o ++ (r.Typ ++ ([61] ++ escS r.Val))) := by
  unfold dn_Text_k3
  simp only [e_WS o r.Typ (by omega), Option.bind_some, e_WB (o ++ r.Typ) 61 (by simp; omega)]
  have := dn_Text_l2_eq i K r.Typ r.Val [] (o ++ r.Typ ++ [61]) FUEL (fuel_gt (by omega)) (by simp; omega) (by simp; omega)
  rw [nil_len, List.nil_append] at this
  rw [this]
  unfold dn_Text_k4 dn_Text_k2
  rw [hj]
  simp [escS]
theorem dn_Text_l1_eq : ∀ (t a : List T_Rdn) (o : Str) (g : Nat), t.length < g → (a ++ t).length ≤ 1000000000 → o.length + rdnsLen t ≤ 10000000 → dn_Text_l1 (a ++ t) g (a.length : Int) o = some (o ++ textG a.isEmpty t)
  | [], a, o, g, hg, hl, ho => by
    obtain ⟨g, rfl⟩ := pos_of hg
    simp only [dn_Text_l1, at_e, cond_false, dn_Text_k1, textG]
    rw [List.append_nil, e_BS o (by simp [rdnsLen] at ho; omega)]
    rfl
  | c :: t, a, o, g, hg, hl, ho => by
    obtain ⟨g, rfl⟩ := pos_of hg
    obtain ⟨h1, h2, h3, h4⟩ := at_c a c t hl
    simp only [rdnsLen, List.map_cons, List.sum_cons] at ho
    have hes := escS_len c.Val
    have ih : ∀ o', o'.length + rdnsLen t ≤ 10000000 → dn_Text_l1 (a ++ c :: t) g ((a ++ [c]).length : Int) o' = some (o' ++ textG false t) := fun o' h => by
      rw [h4, dn_Text_l1_eq t (a ++ [c]) o' g (by simp at hg; omega) (by rw [← h4]; exact hl) h, snoc_empty]
    simp only [dn_Text_l1, h1, h2, cond_true, Option.bind_some]
    cases a with
    | nil =>
      rw [show decide ((([] : List T_Rdn).length : Int) > 0) = false from rfl]
      simp only [cond_false]
      rw [dn_Text_k3_eq _ _ c o _ h3 (by omega), ih _ (by simp [rdnsLen]; omega)]
      simp [textG]
    | cons b a =>
      rw [show decide ((((b :: a).length : Nat) : Int) > 0) = true from decide_eq_true (by simp only [List.length_cons]; omega)]
      simp only [cond_true, e_WB o 44 (by omega), Option.bind_some]
      rw [dn_Text_k3_eq _ _ c _ _ h3 (by simp; omega), ih _ (by simp [rdnsLen]; omega)]
      simp [textG]
theorem e_dn_Text (l : List T_Rdn) (h : rdnsLen l ≤ 10000000) (hl : l.length ≤ 1000000000) : s_dn_Text l = some (textS l) := by
  have := dn_Text_l1_eq l [] [] FUEL (fuel_gt hl) hl (by simpa using h)
  rw [nil_len, List.nil_append, List.nil_append] at this
  exact this
end Go.Ka
namespace Go.Ka
set_option maxRecDepth 100000

/-- A hexadecimal digit's number; below 0: none. -/
def hex8 (c : UInt8) : Int := bif decide (48 ≤ c) && decide (c ≤ 57) then ((c - 48).toNat : Int) else bif decide (97 ≤ c) && decide (c ≤ 102) then ((c - 97).toNat : Int) + 10 else bif decide (65 ≤ c) && decide (c ≤ 70) then ((c - 65).toNat : Int) + 10 else -1
def hexQ (c d : UInt8) : Bool := decide (hex8 c ≥ 0) && decide (hex8 d ≥ 0)
def hexB (c d : UInt8) : UInt8 := toU8 (hex8 c * 16 + hex8 d)
/-- Does a text begin with a digit, behind a digit? -/
def hexH (d : UInt8) : Str → Bool
  | [] => false
  | e :: _ => hexQ d e
/-- Behind a backslash it stands for itself. -/
def esc8 (c : UInt8) : Bool := k_x2c2b225c3c3e3b3d2320.any (· == c)
def bad8 (f : Bool) (c : UInt8) : Bool := odd8 c || spc8 c || (f && (c == 35 || c == 32))
/-- What a value's text says, up to its end. -/
def valG : Bool → Bool → Str → Str → Option Str
  | _, raw, [], o => if raw = true then none else some o
  | f, _, c :: r, o =>
    if c = 92 then
      match r with
      | [] => none
      | d :: t =>
        if hexH d t = true then
          match t with
          | [] => none
          | e :: u => valG false false u (o ++ [hexB d e])
        else if esc8 d = true then valG false false t (o ++ [d])
        else none
    else if bad8 f c = true then none
    else valG false (c == 32) r (o ++ [c])
theorem valG_cons (f raw : Bool) (c : UInt8) (r o : Str) : valG f raw (c :: r) o =
    (if c = 92 then
      match r with
      | [] => none
      | d :: t =>
        if hexH d t = true then
          match t with
          | [] => none
          | e :: u => valG false false u (o ++ [hexB d e])
        else if esc8 d = true then valG false false t (o ++ [d])
        else none
    else if bad8 f c = true then none
    else valG false (c == 32) r (o ++ [c])) := by
  cases r with
  | nil => rfl
  | cons d t => cases t <;> rfl
/-- The same, up to a comma: what stands behind it, too. -/
def valP : Bool → Bool → Str → Str → Option (Str × Str)
  | _, raw, [], o => if raw = true then none else some (o, [])
  | f, raw, c :: r, o =>
    if c = 44 then (if raw = true then none else some (o, c :: r))
    else if c = 92 then
      match r with
      | [] => none
      | d :: t =>
        if hexH d t = true then
          match t with
          | [] => none
          | e :: u => valP false false u (o ++ [hexB d e])
        else if esc8 d = true then valP false false t (o ++ [d])
        else none
    else if bad8 f c = true then none
    else valP false (c == 32) r (o ++ [c])
/-- Up to the first comma that does not stand behind a backslash; and from it on. -/
def pcs : Str → Str × Str
  | [] => ([], [])
  | c :: r =>
    if c = 44 then ([], c :: r)
    else if c = 92 then
      match r with
      | [] => ([c], [])
      | d :: t => (c :: d :: (pcs t).1, (pcs t).2)
    else (c :: (pcs r).1, (pcs r).2)
def cutG : Str → Str → List Str
  | o, [] => [o]
  | o, c :: r =>
    if c = 92 then
      match r with
      | [] => [o ++ [c]]
      | d :: t => cutG (o ++ [c, d]) t
    else if c = 44 then o :: cutG [] r
    else cutG (o ++ [c]) r
/-- At the first `=`. -/
def brk : Str → Option (Str × Str)
  | [] => none
  | c :: t => if c = 61 then some ([], t) else (brk t).map fun x => (c :: x.1, x.2)
def rdnR (p : Str) : Option T_Rdn := match brk p with
  | none => none
  | some (a, b) => (valG true false b []).map fun v => ⟨a, v⟩
def parR : List Str → Option (List T_Rdn)
  | [] => some []
  | p :: l => match rdnR p with
    | none => none
    | some r => (parR l).map fun x => r :: x
def mayR (r : T_Rdn) : Bool := mayT r.Typ && !(r.Val == []) && decide (r.Val.length ≤ 100)
def mayN (l : List T_Rdn) : Bool := l.all mayR && decide (l.length ≤ 8)
def parS (s : Str) : Option (List T_Rdn) := if s = [] then some [] else (parR (cutG [] s)).bind fun l => if mayN l = true then some l else none

theorem hexQ_range (d : UInt8) (h : decide (hex8 d ≥ 0) = true) : ∃ n : Nat, n < 16 ∧ hex8 d = n := by
  have := u8_every (p := fun d => !decide (hex8 d ≥ 0) || decide ((hex8 d).toNat < 16 ∧ hex8 d = ((hex8 d).toNat : Int))) (by decide +kernel) d
  rw [h] at this
  have h2 := of_decide_eq_true (by simpa using this : decide ((hex8 d).toNat < 16 ∧ hex8 d = ((hex8 d).toNat : Int)) = true)
  exact ⟨_, h2⟩
theorem e_r1_hex (c : UInt8) : s_r1_hex c = some (hex8 c) := by
  have := u8_every (p := fun c => s_r1_hex c == some (hex8 c)) (by decide +kernel) c
  exact eq_of_beq this
theorem e_dn_digit (c : UInt8) : s_dn_digit c = some (hex8 c) := by
  have := u8_every (p := fun c => s_dn_digit c == some (hex8 c)) (by decide +kernel) c
  exact eq_of_beq this
theorem hex_comma (d : UInt8) : hexQ d 44 = false := by
  unfold hexQ; rw [show decide (hex8 44 ≥ 0) = false by decide]; simp
theorem hex_back (d : UInt8) : hexQ d 92 = false := by
  unfold hexQ; rw [show decide (hex8 92 ≥ 0) = false by decide]; simp
/-- The program's sum of two digits is the reference's. -/
theorem hex_sum {n m : Nat} (hn : n < 16) (hm : m < 16) : ((shZ .shl .i64 (n : Int) 4).bind fun v => some (toU8 (pbits .or .i64 v (m : Int)))) = some (toU8 ((n : Int) * 16 + m)) := by
  have : ((List.range 16).all fun n => (List.range 16).all fun m => ((shZ .shl .i64 (n : Int) 4).bind fun v => some (toU8 (pbits .or .i64 v (m : Int)))) == some (toU8 ((n : Int) * 16 + m))) = true := by decide +kernel
  exact eq_of_beq (List.all_eq_true.1 (List.all_eq_true.1 this n (List.mem_range.2 hn)) m (List.mem_range.2 hm))
theorem app_empty {α : Type} (a b : List α) (c : α) : (a ++ c :: b).isEmpty = false := by cases a <;> rfl
theorem e_r1_esc8 (c : UInt8) : s_r1_in k_x2c2b225c3c3e3b3d2320 c = some (esc8 c) := e_r1_in _ _ (by decide)
theorem e_r1_spc (c : UInt8) (h : c ≠ 92) : s_r1_in k_x2c2b223c3e3b c = some (spc8 c) := by
  rw [e_r1_in _ _ (by decide)]
  have := u8_every (p := fun c => c == 92 || (k_x2c2b223c3e3b.any (· == c)) == spc8 c) (by decide +kernel) c
  simp [h] at this
  simp [this]

/-! The reference's value. -/
theorem r1_value_l1_eq : ∀ (n : Nat) (t a o : Str) (raw : Bool) (g : Nat), t.length ≤ n → t.length < g → (a ++ t).length ≤ 100000000 → o.length ≤ a.length → (raw = true → t ≠ []) →
    ∃ x, r1_value_l1 (a ++ t) g (a.length : Int) o = some x ∧ (match valG a.isEmpty raw t o with | some v => x = (v, true) | none => x = ([], false)) := by
  intro n
  induction n with
  | zero =>
    intro t a o raw g hn hg hl ho hr
    have ht : t = [] := List.length_eq_zero_iff.1 (by omega)
    subst ht
    obtain ⟨g, rfl⟩ := pos_of hg
    have h0 : raw = false := by cases raw <;> simp at hr ⊢
    subst h0
    refine ⟨(o, true), ?_, ?_⟩
    · simp only [r1_value_l1, at_e, cF, r1_value_k1]
    · simp [valG]
  | succ n ih =>
    intro t a o raw g hn hg hl ho hr
    cases t with
    | nil => exact ih [] a o raw g (by simp) hg hl ho hr
    | cons c r =>
      obtain ⟨g, rfl⟩ := pos_of hg
      obtain ⟨h1, h2, h3, h4⟩ := at_c a c r (by omega)
      have hl' := hl
      have hlast := last_at a c r
      have hlen : ((a ++ c :: r).length : Int) = (a.length : Int) + 1 + (r.length : Int) := by simp; omega
      have hk : ((a ++ [c]).length : Int) = (a.length : Int) + 1 := by simp
      simp only [List.length_append, List.length_cons] at hl hn hg
      have a2 : addO (a.length : Int) 2 = some ((a.length : Int) + 2) := addO_eq (by omega)
      simp only [r1_value_l1, h1, h2, cT, bS, h3, a2]
      by_cases hc : c = 92
      · subst hc
        rw [show ((92 : UInt8) == 92) = true from rfl, cT]
        rw [valG_cons]
        rw [if_pos rfl]
        cases r with
        | nil =>
          rw [show decide ((a.length : Int) + 2 < ((a ++ [92] : Str).length : Int)) = false from decide_eq_false (by rw [hlen]; simp)]
          simp only [cF, bS]
          rw [show decide (((a ++ [92] : Str).length : Int) ≥ ((a ++ [92] : Str).length : Int)) = true from decide_eq_true (Int.le_refl _)]
          simp
        | cons d t =>
          have g1 : lgetO (a ++ 92 :: d :: t) ((a ++ [92] : Str).length : Int) = some d := by
            have := (at_c (a ++ [92]) d t (by simp at hl ⊢; omega)).2.1
            simpa using this
          have a3 : addO ((a ++ [92] : Str).length : Int) 1 = some ((a ++ [92, d] : Str).length : Int) := by
            have := (at_c (a ++ [92]) d t (by simp at hl ⊢; omega)).2.2.1
            simpa using this
          have one : (addO ((a.length : Int) + 2) 1) = some ((a.length : Int) + 3) := by rw [addO_eq (by omega)]; congr 1
          have n1 : decide (((a ++ [92] : Str).length : Int) ≥ ((a ++ 92 :: d :: t : Str).length : Int)) = false := decide_eq_false (by simp; omega)
          have app : ∀ x, appO 1 o [x] = some (o ++ [x]) := fun x => appO_eq (by simp at hl ⊢; omega)
          have alone : ∃ x, ((bif esc8 d then (r1_value_l1 (a ++ 92 :: d :: t) g ((a ++ [92, d] : Str).length : Int) (o ++ [d])) else some ([], false)) : Option (Str × Bool)) = some x ∧
              (match (if esc8 d = true then valG false false t (o ++ [d]) else none) with | some v => x = (v, true) | none => x = ([], false)) := by
            by_cases he : esc8 d = true
            · rw [if_pos he, he, cT]
              have := ih t (a ++ [92, d]) (o ++ [d]) false g (by simp at hn ⊢; omega) (by simp at hg ⊢; omega) (by simp at hl ⊢; omega) (by simp; omega) (fun h => by cases h)
              rw [app_empty] at this
              simpa using this
            · rw [if_neg he, show esc8 d = false by simpa using he, cF]
              exact ⟨_, rfl, rfl⟩
          cases t with
          | nil =>
            rw [show decide ((a.length : Int) + 2 < ((a ++ [92, d] : Str).length : Int)) = false from decide_eq_false (by simp)]
            simp only [cF, bS]
            rw [if_neg (show ¬ hexH d [] = true from fun h => by cases h), n1]
            simp only [cF, g1, bS, e_r1_esc8, app, a3]
            obtain ⟨x, h, h'⟩ := alone
            refine ⟨x, ?_, h'⟩
            rw [← h]
            cases esc8 d <;> rfl
          | cons e u =>
            have g2 : lgetO (a ++ 92 :: d :: e :: u) ((a.length : Int) + 2) = some e := by
              have := (at_c (a ++ [92, d]) e u (by simp at hl ⊢; omega)).2.1
              simpa using this
            rw [show decide ((a.length : Int) + 2 < ((a ++ 92 :: d :: e :: u : Str).length : Int)) = true from decide_eq_true (by simp; omega)]
            simp only [cT, g1, bS, e_r1_hex, g2, bifAnd]
            rw [show (decide (hex8 d ≥ 0) && decide (hex8 e ≥ 0)) = hexQ d e from rfl, show hexH d (e :: u) = hexQ d e from rfl]
            by_cases hq : hexQ d e = true
            · rw [hq, cT, if_pos rfl]
              have hq2 := hq
              simp only [hexQ, Bool.and_eq_true] at hq2
              obtain ⟨x, hx, hx'⟩ := hexQ_range d hq2.1
              obtain ⟨y, hy, hy'⟩ := hexQ_range e hq2.2
              have m1 : mulO (hex8 d) 16 = some (hex8 d * 16) := mulO_eq (by omega)
              have m2 : addO (hex8 d * 16) (hex8 e) = some (hex8 d * 16 + hex8 e) := addO_eq (by omega)
              simp only [m1, m2, bS, app, one]
              have := ih u (a ++ [92, d, e]) (o ++ [hexB d e]) false g (by simp at hn ⊢; omega) (by simp at hg ⊢; omega) (by simp at hl ⊢; omega) (by simp; omega) (fun h => by cases h)
              rw [app_empty] at this
              simpa [hexB] using this
            · rw [if_neg hq, show hexQ d e = false by simpa using hq, cF]
              rw [n1]
              simp only [cF, bS, e_r1_esc8, app, a3]
              obtain ⟨x, h, h'⟩ := alone
              refine ⟨x, ?_, h'⟩
              rw [← h]
              cases esc8 d <;> rfl
      · rw [show (c == 92) = false by simp [hc], cF, e_r1_spc c hc]
        have es : subO ((a ++ c :: r).length : Int) 1 = some (((a ++ c :: r).length : Int) - 1) := subO_eq (by simp; omega)
        have app : appO 1 o [c] = some (o ++ [c]) := appO_eq (by simp; omega)
        simp only [es, bS, first_at0, hlast, app]
        have hb : ((bif decide (c < 32) then some true else bif decide (126 < c) then some true else bif spc8 c then some true else bif a.isEmpty then bif c == 35 then some true else bif c == 32 then some true else bif r.isEmpty then some (c == 32) else some false else bif r.isEmpty then some (c == 32) else some false) : Option Bool) = some (bad8 a.isEmpty c || (r.isEmpty && c == 32)) := by
          unfold bad8 odd8
          cases decide (c < 32) <;> cases decide (126 < c) <;> cases spc8 c <;> cases a.isEmpty <;> cases c == 35 <;> cases c == 32 <;> cases r.isEmpty <;> rfl
        rw [hb]
        simp only [bS]
        rw [valG_cons]
        rw [if_neg hc]
        by_cases hbad : bad8 a.isEmpty c = true
        · rw [if_pos hbad, hbad]
          exact ⟨_, rfl, rfl⟩
        · rw [if_neg hbad, show bad8 a.isEmpty c = false by simpa using hbad, Bool.false_or]
          by_cases hr2 : r = [] ∧ c = 32
          · obtain ⟨rfl, rfl⟩ := hr2
            simp [valG]
          · have h0 : (r.isEmpty && c == 32) = false := by
              rw [Bool.and_eq_false_iff]
              cases r with
              | nil => right; simpa using hr2
              | cons => left; rfl
            rw [h0, cF]
            have := ih r (a ++ [c]) (o ++ [c]) (c == 32) g (by omega) (by omega) (by simp; omega) (by simp; omega) (fun h hr => hr2 ⟨hr, by simpa using h⟩)
            rw [snoc_empty] at this
            simpa using this
theorem e_r1_value (s : Str) (h : s.length ≤ 100000000) : s_r1_value s = some ((valG true false s []).getD [], (valG true false s []).isSome) := by
  obtain ⟨x, h1, h2⟩ := r1_value_l1_eq s.length s [] [] false FUEL (Nat.le_refl _) (fuel_gt (by omega)) h (by simp) (fun h => by cases h)
  unfold s_r1_value
  rw [nil_len, List.nil_append] at h1
  rw [h1]
  simp only [List.isEmpty_nil] at h2
  cases hv : valG true false s [] with
  | none => rw [hv] at h2; simp [h2]
  | some v => rw [hv] at h2; simp [h2]
end Go.Ka
namespace Go.Ka
set_option maxRecDepth 100000

theorem cutG_cons (o : Str) (c : UInt8) (r : Str) : cutG o (c :: r) =
    (if c = 92 then
      match r with
      | [] => [o ++ [c]]
      | d :: t => cutG (o ++ [c, d]) t
    else if c = 44 then o :: cutG [] r
    else cutG (o ++ [c]) r) := by cases r <;> rfl
theorem sub_mid (a o t : Str) (h : (a ++ o ++ t).length ≤ 1000000000) : lsubO (a ++ o ++ t) (a.length : Int) ((a ++ o).length : Int) = some o := by
  rw [lsubO_eq (by simp at h ⊢; omega), Int.toNat_natCast, Int.toNat_natCast]
  simp
theorem r1_cut_l1_eq : ∀ (n : Nat) (t a o : Str) (l : List Str) (g : Nat), t.length ≤ n → t.length < g → (a ++ o ++ t).length ≤ 100000000 → l.length ≤ (a ++ o).length →
    r1_cut_l1 (a ++ o ++ t) g (a.length : Int) ((a ++ o).length : Int) l = some (l ++ cutG o t) ∧ (t = [] → ∀ k : Int, k ≥ ((a ++ o).length : Int) → r1_cut_l1 (a ++ o) g (a.length : Int) k l = some (l ++ [o])) := by
  intro n
  induction n with
  | zero =>
    intro t a o l g hn hg hl hk
    have ht : t = [] := List.length_eq_zero_iff.1 (by omega)
    subst ht
    obtain ⟨g, rfl⟩ := pos_of hg
    have hs : lsubO (a ++ o) (a.length : Int) ((a ++ o).length : Int) = some o := by
      have := sub_mid a o [] (by omega)
      rwa [List.append_nil] at this
    have app : appO 16 l [o] = some (l ++ [o]) := appO_eq (by simp at hl hk ⊢; omega)
    have hx : ∀ k : Int, k ≥ ((a ++ o).length : Int) → r1_cut_l1 (a ++ o) (g + 1) (a.length : Int) k l = some (l ++ [o]) := fun k hk => by
      simp only [r1_cut_l1, decide_eq_false (show ¬ k < ((a ++ o).length : Int) by omega), cF, r1_cut_k1, hs, bS, app]
    refine ⟨?_, fun _ => hx⟩
    rw [List.append_nil, hx _ (Int.le_refl _)]
    rfl
  | succ n ih =>
    intro t a o l g hn hg hl hk
    cases t with
    | nil => exact ih [] a o l g (by simp) hg hl hk
    | cons c r =>
      refine ⟨?_, fun h => by cases h⟩
      obtain ⟨g, rfl⟩ := pos_of hg
      obtain ⟨h1, h2, h3, h4⟩ := at_c (a ++ o) c r (by omega)
      have hl' := hl
      simp only [List.length_append, List.length_cons] at hl hn hg hk
      have one : ∀ x : UInt8, (a ++ o ++ [x]).length = a.length + o.length + 1 := fun x => by simp; omega
      rw [cutG_cons]
      simp only [r1_cut_l1, h1, h2, cT, bS, h3]
      by_cases hc : c = 92
      · subst hc
        rw [show ((92 : UInt8) == 92) = true from rfl, cT, if_pos rfl]
        cases r with
        | nil =>
          rw [addO_eq (by rw [one]; omega)]
          simp only [bS]
          have := (ih [] a (o ++ [92]) l g (by simp) (by simp; omega) (by simpa using hl') (by simp; omega)).2 rfl (((a ++ o ++ [92] : Str).length : Int) + 1) (by simp; omega)
          rw [← List.append_assoc] at this
          exact this
        | cons d t =>
          have hd := (at_c (a ++ o ++ [92]) d t (by simp at hl ⊢; omega)).2.2.1
          rw [hd]
          simp only [bS]
          have := (ih t a (o ++ [92, d]) l g (by simp at hn ⊢; omega) (by simp at hg ⊢; omega) (by simpa using hl') (by simp; omega)).1
          simpa using this
      · rw [show (c == 92) = false by simp [hc], cF, if_neg hc]
        by_cases h44 : c = 44
        · subst h44
          have hs : lsubO (a ++ o ++ 44 :: r) (a.length : Int) ((a ++ o).length : Int) = some o := sub_mid a o (44 :: r) (by omega)
          have app : appO 16 l [o] = some (l ++ [o]) := appO_eq (by simp at hl hk ⊢; omega)
          rw [show ((44 : UInt8) == 44) = true from rfl, cT, if_pos rfl, hs]
          simp only [bS, app]
          have := (ih r (a ++ o ++ [44]) [] (l ++ [o]) g (by omega) (by omega) (by simpa using hl') (by simp; omega)).1
          simp only [List.append_nil] at this
          rw [h4, this]
          simp
        · rw [show (c == 44) = false by simp [h44], cF, if_neg h44]
          have := (ih r a (o ++ [c]) l g (by omega) (by omega) (by simpa using hl') (by simp; omega)).1
          simpa using this
theorem e_r1_cut (s : Str) (h : s.length ≤ 100000000) : s_r1_cut s = some (cutG [] s) := by
  have := (r1_cut_l1_eq s.length s [] [] [] FUEL (Nat.le_refl _) (fuel_gt (by omega)) h (by simp)).1
  simp only [List.nil_append, nil_len] at this
  exact this
theorem brk_len : ∀ (p a b : Str), brk p = some (a, b) → p.length = a.length + b.length + 1
  | [], a, b, h => by cases h
  | c :: t, a, b, h => by
    unfold brk at h
    split at h
    · cases h; simp
    · cases hb : brk t with
      | none => rw [hb] at h; cases h
      | some x =>
        rw [hb] at h
        cases h
        have := brk_len t x.1 x.2 hb
        simp; omega
theorem brk_eq : ∀ (p a b : Str), brk p = some (a, b) → p = a ++ 61 :: b
  | [], a, b, h => by cases h
  | c :: t, a, b, h => by
    unfold brk at h
    split at h
    · rename_i hc; cases h; rw [hc]; rfl
    · cases hb : brk t with
      | none => rw [hb] at h; cases h
      | some x =>
        rw [hb] at h
        cases h
        have := brk_eq t x.1 x.2 hb
        rw [List.cons_append, ← this]
/-- The inner walk: where the first `=` stands, or the end. -/
theorem r1_ParseDn_l2_eq (v2 : List Str) (l : List T_Rdn) (i : Int) (K : Int → List T_Rdn → Option T_R1Dn) : ∀ (t a : Str) (g : Nat), t.length < g → (a ++ t).length ≤ 100000000 → lgetO v2 i = some (a ++ t) →
    r1_ParseDn_l2 v2 l i K g (a.length : Int) = r1_ParseDn_k3 v2 l i K (match brk t with | none => ((a ++ t).length : Int) | some x => ((a ++ x.1).length : Int))
  | [], a, g, hg, hl, hi => by
    obtain ⟨g, rfl⟩ := pos_of hg
    simp only [r1_ParseDn_l2, hi, bS, at_e, cF, brk]
    rw [List.append_nil]
  | c :: t, a, g, hg, hl, hi => by
    obtain ⟨g, rfl⟩ := pos_of hg
    obtain ⟨h1, h2, h3, h4⟩ := at_c a c t (by omega)
    simp only [r1_ParseDn_l2, hi, bS, h1, cT, h2, h3]
    have ih := r1_ParseDn_l2_eq v2 l i K t (a ++ [c]) g (by simp at hg; omega) (by simpa using hl) (by rw [← h4]; exact hi)
    unfold brk
    by_cases hc : c = 61
    · subst hc
      rw [show ((61 : UInt8) != 61) = false from rfl, cF, if_pos rfl]
      simp
    · rw [show (c != 61) = true by simp [hc], cT, ih, if_neg hc]
      cases hb : brk t with
      | none => simp [hb]
      | some x => simp [hb]
theorem r1_ParseDn_k3_eq (v2 : List Str) (l : List T_Rdn) (i : Int) (K : Int → List T_Rdn → Option T_R1Dn) (p : Str) (j : Int) (hi : lgetO v2 i = some p) (hj : addO i 1 = some j) (hl : l.length ≤ 100000000) (hp : p.length ≤ 100000000) :
    r1_ParseDn_k3 v2 l i K (match brk p with | none => (p.length : Int) | some x => (x.1.length : Int)) = match rdnR p with | none => some (⟨[], false⟩ : T_R1Dn) | some r => K j (l ++ [r]) := by
  unfold r1_ParseDn_k3 rdnR
  rw [hi]
  simp only [bS]
  cases hb : brk p with
  | none => simp
  | some x =>
    obtain ⟨a, b⟩ := x
    have hlen := brk_len p a b hb
    have heq := brk_eq p a b hb
    simp only
    rw [show ((a.length : Int) == (p.length : Int)) = false by rw [beq_eq_false_iff_ne]; omega, cF, addO_eq (by omega)]
    simp only [bS]
    have s1 : lsubO p ((a.length : Int) + 1) (p.length : Int) = some b := by
      rw [lsubO_eq (by omega), heq]
      have e : ((a.length : Int) + 1).toNat = a.length + 1 := by omega
      rw [e, Int.toNat_natCast]
      simp only [List.length_append, List.length_cons]
      rw [show (a ++ 61 :: b) = (a ++ [61]) ++ b by simp, List.drop_left' (by simp)]
      rw [List.take_of_length_le (show b.length ≤ a.length + (b.length + 1) - (a.length + 1) by omega)]
    have s2 : lsubO p 0 (a.length : Int) = some a := by
      rw [lsubO_eq (by omega), heq]
      simp
    rw [s1, s2]
    simp only [bS]
    rw [e_r1_value b (by omega)]
    simp only [bS]
    cases hv : valG true false b [] with
    | none => simp
    | some v =>
      have app : appO 32 l [(⟨a, v⟩ : T_Rdn)] = some (l ++ [⟨a, v⟩]) := appO_eq (by simp; omega)
      simp only [Option.getD_some, Option.isSome_some, Bool.not_true, cF, app, bS, r1_ParseDn_k2, hj, Option.map_some]
theorem r1_ParseDn_l1_eq : ∀ (t a : List Str) (l : List T_Rdn) (g : Nat), t.length < g → (a ++ t).length ≤ 100000000 → l.length ≤ a.length → (∀ p ∈ t, p.length ≤ 100000000) →
    r1_ParseDn_l1 (a ++ t) g (a.length : Int) l = match parR t with | none => some (⟨[], false⟩ : T_R1Dn) | some m => r1_ParseDn_k1 (l ++ m)
  | [], a, l, g, hg, hl, hk, hp => by
    obtain ⟨g, rfl⟩ := pos_of hg
    simp only [r1_ParseDn_l1, at_e, cF, parR]
    rw [List.append_nil]
  | p :: t, a, l, g, hg, hl, hk, hp => by
    obtain ⟨g, rfl⟩ := pos_of hg
    obtain ⟨h1, h2, h3, h4⟩ := at_c a p t (by omega)
    have hl' := hl
    have hp0 := hp p (by simp)
    simp only [List.length_append, List.length_cons] at hl
    have e2 := r1_ParseDn_l2_eq (a ++ p :: t) l (a.length : Int) (r1_ParseDn_l1 (a ++ p :: t) g) p [] FUEL (fuel_gt (by omega)) (by simpa using hp0) (by simpa using h2)
    simp only [List.nil_append, nil_len] at e2
    simp only [r1_ParseDn_l1, h1, cT]
    rw [e2, r1_ParseDn_k3_eq (a ++ p :: t) l (a.length : Int) _ p _ h2 h3 (by omega) hp0]
    unfold parR
    cases hr : rdnR p with
    | none => rfl
    | some r =>
      simp only
      rw [h4, r1_ParseDn_l1_eq t (a ++ [p]) (l ++ [r]) g (by simp at hg; omega) (by rw [← h4]; exact hl') (by simp; omega) (fun q hq => hp q (by simp [hq]))]
      cases parR t with
      | none => rfl
      | some m => simp
theorem cutG_len : ∀ (n : Nat) (s o : Str), s.length ≤ n → (∀ p ∈ cutG o s, p.length ≤ o.length + s.length) ∧ (cutG o s).length ≤ s.length + 1 := by
  intro n
  induction n with
  | zero =>
    intro s o hn
    have : s = [] := List.length_eq_zero_iff.1 (by omega)
    subst this
    simp [cutG]
  | succ n ih =>
    intro s o hn
    cases s with
    | nil => simp [cutG]
    | cons c r =>
      rw [cutG_cons]
      simp only [List.length_cons] at hn ⊢
      split
      · cases r with
        | nil => simp
        | cons d t =>
          have := ih t (o ++ [c, d]) (by simp at hn; omega)
          simp only [List.length_append, List.length_cons, List.length_nil] at this ⊢
          exact ⟨fun p hp => by have := this.1 p hp; omega, by omega⟩
      · split
        · have := ih r [] (by omega)
          simp only [List.length_nil] at this
          refine ⟨fun p hp => ?_, by simp; omega⟩
          rcases List.mem_cons.1 hp with rfl | hp
          · omega
          · have := this.1 p hp; omega
        · have := ih r (o ++ [c]) (by omega)
          simp only [List.length_append, List.length_cons, List.length_nil] at this ⊢
          exact ⟨fun p hp => by have := this.1 p hp; omega, by omega⟩
theorem e_r1_MayDn_l1 : ∀ (t a : List T_Rdn) (g : Nat), t.length < g → (a ++ t).length ≤ 100000000 → (∀ r ∈ t, r.Typ.length ≤ 100000000 ∧ r.Val.length ≤ 100000000) → r1_MayDn_l1 (a ++ t) g (a.length : Int) = some (t.all mayR && decide ((a ++ t).length ≤ 8))
  | [], a, g, hg, hl, hp => by
    obtain ⟨g, rfl⟩ := pos_of hg
    simp only [r1_MayDn_l1, at_e, cF, r1_MayDn_k1, List.all_nil, Bool.true_and]
    congr 1
    by_cases h : (a ++ []).length ≤ 8
    · rw [decide_eq_true h, decide_eq_true (by omega)]
    · rw [decide_eq_false h, decide_eq_false (by omega)]
  | r :: t, a, g, hg, hl, hp => by
    obtain ⟨g, rfl⟩ := pos_of hg
    obtain ⟨h1, h2, h3, h4⟩ := at_c a r t (by omega)
    have hr := hp r (by simp)
    have e : decide ((r.Val.length : Int) > 100) = !decide (r.Val.length ≤ 100) := by
      by_cases h0 : r.Val.length ≤ 100
      · rw [decide_eq_true h0, decide_eq_false (by omega)]; rfl
      · rw [decide_eq_false h0, decide_eq_true (by omega)]; rfl
    have ih := e_r1_MayDn_l1 t (a ++ [r]) g (by simp at hg; omega) (by rw [← h4]; exact hl) (fun q hq => hp q (by simp [hq]))
    rw [← h4] at ih
    simp only [r1_MayDn_l1, h1, cT, h2, bS, e_r1_MayType r.Typ (by omega), h3, ih, e, List.all_cons, mayR]
    cases mayT r.Typ <;> cases r.Val == [] <;> cases decide (r.Val.length ≤ 100) <;> simp
theorem e_r1_MayDn (l : List T_Rdn) (h : l.length ≤ 100000000) (hp : ∀ r ∈ l, r.Typ.length ≤ 100000000 ∧ r.Val.length ≤ 100000000) : s_r1_MayDn l = some (mayN l) := by
  have := e_r1_MayDn_l1 l [] FUEL (fuel_gt (by omega)) h hp
  simp only [List.nil_append, nil_len] at this
  exact this
theorem valG_len : ∀ (n : Nat) (t o v : Str) (f raw : Bool), t.length ≤ n → valG f raw t o = some v → v.length ≤ o.length + t.length := by
  intro n
  induction n with
  | zero =>
    intro t o v f raw hn h
    have : t = [] := List.length_eq_zero_iff.1 (by omega)
    subst this
    unfold valG at h
    split at h
    · cases h
    · cases h; simp
  | succ n ih =>
    intro t o v f raw hn h
    cases t with
    | nil => exact ih [] o v f raw (by simp) h
    | cons c r =>
      rw [valG_cons] at h
      simp only [List.length_cons] at hn ⊢
      split at h
      · cases r with
        | nil => cases h
        | cons d t =>
          simp only [List.length_cons] at hn ⊢
          simp only at h
          split at h
          · cases t with
            | nil => cases h
            | cons e u =>
              simp only [List.length_cons] at hn ⊢
              have := ih _ _ _ _ _ (by omega) h
              simp at this; omega
          · split at h
            · have := ih _ _ _ _ _ (by omega) h
              simp at this; omega
            · cases h
      · split at h
        · cases h
        · have := ih _ _ _ _ _ (by omega) h
          simp at this; omega
theorem rdnR_len {p : Str} {r : T_Rdn} (h : rdnR p = some r) : r.Typ.length + r.Val.length + 1 ≤ p.length := by
  unfold rdnR at h
  cases hb : brk p with
  | none => rw [hb] at h; cases h
  | some x =>
    obtain ⟨a, b⟩ := x
    rw [hb] at h
    cases hv : valG true false b [] with
    | none => simp [hv] at h
    | some v =>
      simp [hv] at h
      subst h
      have h1 := brk_len p a b hb
      have h2 := valG_len b.length b [] v _ _ (Nat.le_refl _) hv
      simp at h2 ⊢
      omega
theorem parR_len : ∀ (l : List Str) (m : List T_Rdn), parR l = some m → m.length = l.length ∧ ∀ r ∈ m, ∃ p ∈ l, rdnR p = some r
  | [], m, h => by cases h; simp
  | p :: l, m, h => by
    unfold parR at h
    cases hr : rdnR p with
    | none => rw [hr] at h; cases h
    | some r =>
      rw [hr] at h
      cases hm : parR l with
      | none => simp [hm] at h
      | some k =>
        simp [hm] at h
        subst h
        have := parR_len l k hm
        refine ⟨by simp [this.1], fun q hq => ?_⟩
        rcases List.mem_cons.1 hq with rfl | hq
        · exact ⟨p, by simp, hr⟩
        · obtain ⟨x, hx, hx'⟩ := this.2 q hq
          exact ⟨x, by simp [hx], hx'⟩
theorem e_r1_ParseDn (s : Str) (h : s.length ≤ 10000000) : s_r1_ParseDn s = some ⟨(parS s).getD [], (parS s).isSome⟩ := by
  unfold s_r1_ParseDn parS
  by_cases h0 : s = []
  · subst h0; rfl
  · rw [show (s == []) = false by simpa using h0, cF, e_r1_cut s (by omega), if_neg h0]
    have hc := cutG_len s.length s [] (Nat.le_refl _)
    simp only [List.length_nil, Nat.zero_add] at hc
    have := r1_ParseDn_l1_eq (cutG [] s) [] [] FUEL (fuel_gt (by omega)) (by simp; omega) (by simp) (fun p hp => by have := hc.1 p hp; omega)
    simp only [List.nil_append, nil_len] at this
    simp only [bS]
    rw [this]
    cases hp : parR (cutG [] s) with
    | none => rfl
    | some m =>
      have hm := parR_len _ _ hp
      have hlen : ∀ r ∈ m, r.Typ.length ≤ 100000000 ∧ r.Val.length ≤ 100000000 := fun r hr => by
        obtain ⟨p, hp, hp'⟩ := hm.2 r hr
        have h1 := rdnR_len hp'
        have h2 := hc.1 p hp
        omega
      simp only [r1_ParseDn_k1, e_r1_MayDn m (by omega) hlen, bS, Option.bind_some]
      cases mayN m <;> simp
end Go.Ka
namespace Go.Ka
set_option maxRecDepth 100000

theorem valP_cons (f raw : Bool) (c : UInt8) (r o : Str) : valP f raw (c :: r) o =
    (if c = 44 then (if raw = true then none else some (o, c :: r))
    else if c = 92 then
      match r with
      | [] => none
      | d :: t =>
        if hexH d t = true then
          match t with
          | [] => none
          | e :: u => valP false false u (o ++ [hexB d e])
        else if esc8 d = true then valP false false t (o ++ [d])
        else none
    else if bad8 f c = true then none
    else valP false (c == 32) r (o ++ [c])) := by
  cases r with
  | nil => rfl
  | cons d t => cases t <;> rfl
theorem pcs_cons (c : UInt8) (r : Str) : pcs (c :: r) =
    (if c = 44 then ([], c :: r)
    else if c = 92 then
      match r with
      | [] => ([c], [])
      | d :: t => (c :: d :: (pcs t).1, (pcs t).2)
    else (c :: (pcs r).1, (pcs r).2)) := by cases r <;> rfl
theorem esc8_or (c : UInt8) : (spc8 c || (c == 61 || (c == 35 || c == 32))) = esc8 c := by
  have := u8_every (p := fun c => (spc8 c || (c == 61 || (c == 35 || c == 32))) == esc8 c) (by decide +kernel) c
  exact eq_of_beq this
theorem hex_esc (d e : UInt8) (h : hexQ d e = true) : esc8 d = false := by
  have := u8_every (p := fun d => !decide (hex8 d ≥ 0) || !esc8 d) (by decide +kernel) d
  unfold hexQ at h
  rw [Bool.and_eq_true] at h
  rw [h.1] at this
  simpa using this
/-- What stands behind a backslash, in the program's words. -/
theorem e_dn_escaped_nil : s_dn_escaped [] = some (0, 0) := rfl
def escN (d : UInt8) : Str → UInt8 × Int
  | [] => (0, 0)
  | e :: _ => if hexQ d e = true then (hexB d e, 2) else (0, 0)
theorem e_dn_escaped (d : UInt8) (t : Str) (h : (d :: t).length ≤ 100000000) :
    s_dn_escaped (d :: t) = some (if esc8 d = true then (d, (1 : Int)) else escN d t) := by
  have g0 : lgetO (d :: t) 0 = some d := rfl
  unfold s_dn_escaped
  rw [show ((d :: t) == ([] : Str)) = false from rfl]
  simp only [cF, g0, bS, e_dn_special, bifOr, esc8_or, e_dn_digit]
  by_cases he : esc8 d = true
  · rw [he, cT, if_pos rfl]
  · rw [show esc8 d = false by simpa using he, cF, if_neg (by decide)]
    cases t with
    | nil => rfl
    | cons e u =>
      have g1 : lgetO (d :: e :: u) 1 = some e := rfl
      rw [show decide (((d :: e :: u).length : Int) > 1) = true from decide_eq_true (by simp only [List.length_cons]; omega)]
      simp only [cT, g1, bS, e_dn_digit, bifAnd]
      rw [show (decide (hex8 d ≥ 0) && decide (hex8 e ≥ 0)) = hexQ d e from rfl]
      rw [show escN d (e :: u) = if hexQ d e = true then (hexB d e, 2) else (0, 0) from rfl]
      by_cases hq : hexQ d e = true
      · rw [hq, cT, if_pos rfl]
        have hq2 := hq
        simp only [hexQ, Bool.and_eq_true] at hq2
        obtain ⟨x, hx, hx'⟩ := hexQ_range d hq2.1
        obtain ⟨y, hy, hy'⟩ := hexQ_range e hq2.2
        have hs := hex_sum hx hy
        unfold hexB
        rw [hx', hy']
        cases hz : shZ .shl .i64 (x : Int) 4 with
        | none => rw [hz] at hs; cases hs
        | some z =>
          rw [hz, bS] at hs
          rw [bS, Option.some.inj hs]
      · rw [if_neg hq, show hexQ d e = false by simpa using hq, cF]
theorem dn_value_l1_eq : ∀ (n : Nat) (t a o : Str) (raw : Bool) (g : Nat), t.length ≤ n → t.length < g → (a ++ t).length ≤ 100000000 → o.length ≤ a.length →
    ∃ x, dn_value_l1 (a ++ t) g raw (a.length : Int) o = some x ∧ (match valP a.isEmpty raw t o with | some v => x = (v.1, v.2, true) | none => x.2.2 = false) := by
  intro n
  have fin : ∀ (t a o : Str) (raw : Bool), (a ++ t).length ≤ 100000000 → dn_value_k1 (a ++ t) raw (a.length : Int) o = some (o, t, !raw) := fun t a o raw hl => by
    unfold dn_value_k1
    rw [lsubO_eq (by simp at hl ⊢; omega), Int.toNat_natCast, Int.toNat_natCast]
    simp
  induction n with
  | zero =>
    intro t a o raw g hn hg hl ho
    have ht : t = [] := List.length_eq_zero_iff.1 (by omega)
    subst ht
    obtain ⟨g, rfl⟩ := pos_of hg
    refine ⟨(o, [], !raw), ?_, ?_⟩
    · simp only [dn_value_l1, at_e, cF, bS]
      exact fin [] a o raw hl
    · cases raw <;> simp [valP]
  | succ n ih =>
    intro t a o raw g hn hg hl ho
    cases t with
    | nil => exact ih [] a o raw g (by simp) hg hl ho
    | cons c r =>
      obtain ⟨g, rfl⟩ := pos_of hg
      obtain ⟨h1, h2, h3, h4⟩ := at_c a c r (by omega)
      have hl' := hl
      simp only [List.length_append, List.length_cons] at hl hn hg
      have app : ∀ x, appO 1 o [x] = some (o ++ [x]) := fun x => appO_eq (by simp; omega)
      rw [valP_cons]
      simp only [dn_value_l1, h1, h2, cT, bS, h3]
      by_cases h44 : c = 44
      · subst h44
        rw [show ((44 : UInt8) != 44) = false from rfl, cF, if_pos rfl, fin (44 :: r) a o raw hl']
        cases raw
        · exact ⟨_, rfl, rfl⟩
        · exact ⟨_, rfl, rfl⟩
      · rw [show (c != 44) = true by simp [h44], cT, if_neg h44]
        by_cases hc : c = 92
        · subst hc
          rw [show ((92 : UInt8) == 92) = true from rfl, cT, if_pos rfl]
          have hs : lsubO (a ++ 92 :: r) ((a ++ [92] : Str).length : Int) ((a ++ 92 :: r : Str).length : Int) = some r := by
            rw [lsubO_eq (by simp; omega), Int.toNat_natCast, Int.toNat_natCast, h4, List.drop_left]
            rw [List.take_of_length_le (by simp only [List.length_append, List.length_cons, List.length_nil]; omega)]
          rw [hs]
          simp only [bS]
          cases r with
          | nil =>
            rw [e_dn_escaped_nil]
            exact ⟨_, rfl, rfl⟩
          | cons d t =>
            rw [e_dn_escaped d t (by simp at hl ⊢; omega)]
            simp only [bS]
            by_cases he : esc8 d = true
            · have hx : hexH d t = false := by
                cases t with
                | nil => rfl
                | cons e u =>
                  cases hq : hexQ d e
                  · exact hq
                  · rw [hex_esc d e hq] at he; cases he
              rw [if_pos he, hx, if_neg (by decide), if_pos he]
              simp only [app, bS]
              rw [show ((1 : Int) == 0) = false from rfl, cF, h3, bS]
              have a2 : addO ((a ++ [92] : Str).length : Int) 1 = some ((a ++ [92, d] : Str).length : Int) := by
                have := (at_c (a ++ [92]) d t (by simp at hl ⊢; omega)).2.2.1
                simpa using this
              rw [a2, bS]
              have := ih t (a ++ [92, d]) (o ++ [d]) false g (by simp at hn ⊢; omega) (by simp at hg ⊢; omega) (by simp at hl ⊢; omega) (by simp; omega)
              rw [app_empty, List.append_assoc] at this
              exact this
            · rw [if_neg he]
              cases t with
              | nil =>
                rw [show hexH d [] = false from rfl, if_neg (by decide), if_neg he]
                exact ⟨_, rfl, rfl⟩
              | cons e u =>
                rw [show hexH d (e :: u) = hexQ d e from rfl, show escN d (e :: u) = if hexQ d e = true then (hexB d e, 2) else (0, 0) from rfl]
                by_cases hq : hexQ d e = true
                · rw [hq, if_pos rfl, if_pos rfl]
                  simp only [app, bS]
                  rw [show ((2 : Int) == 0) = false from rfl, cF]
                  have a2 : addO (a.length : Int) 2 = some ((a ++ [92, d] : Str).length : Int) := by rw [addO_eq (by omega)]; simp
                  have a3 : addO ((a ++ [92, d] : Str).length : Int) 1 = some ((a ++ [92, d, e] : Str).length : Int) := by
                    have := (at_c (a ++ [92, d]) e u (by simp at hl ⊢; omega)).2.2.1
                    simpa using this
                  rw [a2, bS, a3, bS]
                  have := ih u (a ++ [92, d, e]) (o ++ [hexB d e]) false g (by simp at hn ⊢; omega) (by simp at hg ⊢; omega) (by simp at hl ⊢; omega) (by simp; omega)
                  rw [app_empty, List.append_assoc] at this
                  exact this
                · rw [if_neg hq, if_neg hq, if_neg he]
                  exact ⟨_, rfl, rfl⟩
        · rw [show (c == 92) = false by simp [hc], cF, if_neg hc]
          have hb : ((bif decide (c < 32) then some true else bif decide (126 < c) then some true else (s_dn_special c).bind fun v141 => bif v141 then some true else bif ((a.length : Int) == 0) then bif c == 35 then some true else some (c == 32) else some false) : Option Bool) = some (bad8 a.isEmpty c) := by
            rw [first_at0, e_dn_special]
            unfold bad8 odd8
            cases decide (c < 32) <;> cases decide (126 < c) <;> cases spc8 c <;> cases a.isEmpty <;> cases c == 35 <;> cases c == 32 <;> rfl
          rw [hb]
          simp only [bS]
          by_cases hbad : bad8 a.isEmpty c = true
          · rw [if_pos hbad, hbad]
            exact ⟨_, rfl, rfl⟩
          · rw [if_neg hbad, show bad8 a.isEmpty c = false by simpa using hbad, cF, app]
            simp only [bS]
            have := ih r (a ++ [c]) (o ++ [c]) (c == 32) g (by omega) (by omega) (by rw [← h4]; exact hl') (by simp; omega)
            rw [snoc_empty, ← h4] at this
            exact this
theorem e_dn_value (s : Str) (h : s.length ≤ 100000000) : ∃ x, s_dn_value s = some x ∧ (match valP true false s [] with | some v => x = (v.1, v.2, true) | none => x.2.2 = false) := by
  obtain ⟨x, h1, h2⟩ := dn_value_l1_eq s.length s [] [] false FUEL (Nat.le_refl _) (fuel_gt (by omega)) h (by simp)
  simp only [List.nil_append, nil_len] at h1
  exact ⟨x, h1, h2⟩

/-! A value up to a comma is the value of the piece. -/
theorem valP_pcs : ∀ (n : Nat) (s o : Str) (f raw : Bool), s.length ≤ n → valP f raw s o = (valG f raw (pcs s).1 o).map fun v => (v, (pcs s).2) := by
  intro n
  induction n with
  | zero =>
    intro s o f raw hn
    have : s = [] := List.length_eq_zero_iff.1 (by omega)
    subst this
    cases raw <;> simp [valP, valG, pcs]
  | succ n ih =>
    intro s o f raw hn
    cases s with
    | nil => exact ih [] o f raw (by simp)
    | cons c r =>
      simp only [List.length_cons] at hn
      rw [valP_cons, pcs_cons]
      by_cases h44 : c = 44
      · subst h44
        rw [if_pos rfl, if_pos rfl]
        cases raw <;> simp [valG]
      · rw [if_neg h44, if_neg h44]
        by_cases hc : c = 92
        · subst hc
          rw [if_pos rfl, if_pos rfl]
          cases r with
          | nil => rw [valG_cons, if_pos rfl]; rfl
          | cons d t =>
            simp only [List.length_cons] at hn
            simp only
            rw [valG_cons, if_pos rfl]
            simp only
            cases t with
            | nil =>
              by_cases he : esc8 d = true
              · rw [he]; rfl
              · rw [show esc8 d = false by simpa using he]; rfl
            | cons e u =>
              simp only [List.length_cons] at hn
              rw [show hexH d (e :: u) = hexQ d e from rfl]
              by_cases hq : hexQ d e = true
              · have he44 : e ≠ 44 := by rintro rfl; rw [hex_comma] at hq; cases hq
                have he92 : e ≠ 92 := by rintro rfl; rw [hex_back] at hq; cases hq
                rw [if_pos hq, pcs_cons, if_neg he44, if_neg he92]
                simp only
                rw [show hexH d (e :: (pcs u).1) = hexQ d e from rfl, if_pos hq]
                exact ih u _ _ _ (by omega)
              · have hh : hexH d (pcs (e :: u)).1 = false := by
                  rw [pcs_cons]
                  by_cases he44 : e = 44
                  · rw [if_pos he44]; rfl
                  · rw [if_neg he44]
                    by_cases he92 : e = 92
                    · rw [if_pos he92]
                      subst he92
                      cases u with
                      | nil => simp [hexH, hex_back]
                      | cons x y => simp [hexH, hex_back]
                    · rw [if_neg he92]
                      simpa [hexH] using hq
                rw [if_neg hq, hh, if_neg (show ¬ (false = true) from Bool.false_ne_true)]
                by_cases he : esc8 d = true
                · rw [if_pos he, if_pos he]
                  exact ih (e :: u) _ _ _ (by simp; omega)
                · rw [if_neg he, if_neg he]; rfl
        · rw [if_neg hc, if_neg hc]
          simp only
          rw [valG_cons, if_neg hc]
          by_cases hb : bad8 f c = true
          · rw [if_pos hb, if_pos hb]; rfl
          · rw [if_neg hb, if_neg hb]
            exact ih r _ _ _ (by omega)
/-- A text's pieces: the first one, and those behind the comma. -/
theorem cutG_pcs : ∀ (n : Nat) (s o : Str), s.length ≤ n → cutG o s = (o ++ (pcs s).1) :: (match (pcs s).2 with | [] => [] | _ :: r => cutG [] r) := by
  intro n
  induction n with
  | zero =>
    intro s o hn
    have : s = [] := List.length_eq_zero_iff.1 (by omega)
    subst this
    simp [cutG, pcs]
  | succ n ih =>
    intro s o hn
    cases s with
    | nil => simp [cutG, pcs]
    | cons c r =>
      simp only [List.length_cons] at hn
      rw [cutG_cons, pcs_cons]
      by_cases hc : c = 92
      · subst hc
        rw [if_pos rfl, if_neg (by decide), if_pos rfl]
        cases r with
        | nil => rfl
        | cons d t =>
          simp only [List.length_cons] at hn
          simp only
          rw [ih t _ (by omega)]
          simp
      · rw [if_neg hc]
        by_cases h44 : c = 44
        · subst h44
          rw [if_pos rfl, if_pos rfl]
          simp
        · rw [if_neg h44, if_neg h44, if_neg hc, ih r _ (by omega)]
          simp
theorem pcs_split : ∀ (n : Nat) (s : Str), s.length ≤ n → s = (pcs s).1 ++ (pcs s).2 ∧ ((pcs s).2 = [] ∨ ∃ r, (pcs s).2 = 44 :: r) := by
  intro n
  induction n with
  | zero =>
    intro s hn
    have : s = [] := List.length_eq_zero_iff.1 (by omega)
    subst this
    exact ⟨rfl, .inl rfl⟩
  | succ n ih =>
    intro s hn
    cases s with
    | nil => exact ⟨rfl, .inl rfl⟩
    | cons c r =>
      simp only [List.length_cons] at hn
      rw [pcs_cons]
      by_cases h44 : c = 44
      · subst h44
        rw [if_pos rfl]
        exact ⟨rfl, .inr ⟨r, rfl⟩⟩
      · rw [if_neg h44]
        by_cases hc : c = 92
        · rw [if_pos hc]
          cases r with
          | nil => exact ⟨rfl, .inl rfl⟩
          | cons d t =>
            simp only [List.length_cons] at hn
            have := ih t (by omega)
            exact ⟨by rw [List.cons_append, List.cons_append, ← this.1], this.2⟩
        · rw [if_neg hc]
          have := ih r (by omega)
          exact ⟨by rw [List.cons_append, ← this.1], this.2⟩
/-- Ahead of an `=` a type's name: it stands in the first piece. -/
theorem pcs_typ : ∀ (a b : Str), (∀ c ∈ a, c ≠ 44 ∧ c ≠ 92) → pcs (a ++ 61 :: b) = (a ++ 61 :: (pcs b).1, (pcs b).2)
  | [], b, h => by rw [List.nil_append, pcs_cons]; rfl
  | c :: a, b, h => by
    have hc := h c (by simp)
    rw [List.cons_append, pcs_cons, if_neg hc.1, if_neg hc.2, pcs_typ a b fun d hd => h d (by simp [hd])]
    rfl
theorem brk_typ : ∀ (a b : Str), (∀ c ∈ a, c ≠ 61) → brk (a ++ 61 :: b) = some (a, b)
  | [], b, h => by rw [List.nil_append]; rfl
  | c :: a, b, h => by
    have hc := h c (by simp)
    rw [List.cons_append]
    unfold brk
    rw [if_neg hc, brk_typ a b fun d hd => h d (by simp [hd])]
    rfl
theorem brk_pre : ∀ (a b x y : Str), brk a = some (x, y) → brk (a ++ b) = some (x, y ++ b)
  | [], b, x, y, h => by cases h
  | c :: a, b, x, y, h => by
    rw [List.cons_append]
    unfold brk at h ⊢
    split
    · rename_i hc
      rw [if_pos hc] at h; cases h; rfl
    · rename_i hc
      rw [if_neg hc] at h
      cases hb : brk a with
      | none => rw [hb] at h; cases h
      | some z =>
        obtain ⟨z1, z2⟩ := z
        rw [hb] at h
        cases h
        rw [brk_pre a b z1 z2 hb]
        rfl
theorem brk_no61 : ∀ (p a b : Str), brk p = some (a, b) → ∀ c ∈ a, c ≠ 61
  | [], a, b, h => by cases h
  | c :: t, a, b, h => by
    unfold brk at h
    split at h
    · cases h; simp
    · rename_i hc
      cases hb : brk t with
      | none => rw [hb] at h; cases h
      | some z =>
        rw [hb] at h
        cases h
        intro d hd
        rcases List.mem_cons.1 hd with rfl | hd
        · exact hc
        · exact brk_no61 t z.1 z.2 hb d hd
theorem typ8_no (c : UInt8) (h : typ8 c = true) : c ≠ 44 ∧ c ≠ 92 ∧ c ≠ 61 := by
  have := u8_every (p := fun c => !typ8 c || decide (c ≠ 44 ∧ c ≠ 92 ∧ c ≠ 61)) (by decide +kernel) c
  rw [h] at this
  simpa using this
theorem mayT_all {s : Str} (h : mayT s = true) : ∀ c ∈ s, typ8 c = true := by
  cases s with
  | nil => cases h
  | cons d t =>
    unfold mayT at h
    rw [Bool.and_eq_true] at h
    exact fun c hc => List.all_eq_true.1 h.2 c hc

/-! The program's cut at the first `=`. -/
theorem indexByte_brk : ∀ (s : Str), Lib.indexByte s 61 = (match brk s with | none => -1 | some x => (x.1.length : Int))
  | [] => rfl
  | c :: s => by
    unfold Lib.indexByte brk
    have ih := indexByte_brk s
    by_cases hc : c = 61
    · rw [if_pos hc, if_pos (by simpa using hc)]; rfl
    · rw [if_neg hc, if_neg (by simpa using hc), ih]
      cases brk s with
      | none => rfl
      | some x =>
        simp only [Option.map_some, List.length_cons]
        rw [if_neg (by simp)]
        simp
theorem e_Cut (s : Str) (h : s.length ≤ 100000000) : s_strings_Cut s k_x3d = some (match brk s with | none => (s, [], false) | some x => (x.1, x.2, true)) := by
  have hi : s_internal_stringslite_Index s k_x3d = some (Lib.indexByte s 61) := by
    by_cases hs : s = [61]
    · subst hs; rfl
    · unfold s_internal_stringslite_Index s_indexByte
      rw [show (k_x3d == s) = false from beq_eq_false_iff_ne.2 fun h => hs h.symm]
      rfl
  unfold s_strings_Cut s_internal_stringslite_Cut
  rw [hi, indexByte_brk]
  cases hb : brk s with
  | none => rfl
  | some x =>
    obtain ⟨a, b⟩ := x
    have hlen := brk_len s a b hb
    have heq := brk_eq s a b hb
    simp only [bS]
    rw [decide_eq_true (show (a.length : Int) ≥ 0 by omega), cT]
    have s1 : lsubO s 0 (a.length : Int) = some a := by
      rw [lsubO_eq (by omega), heq]
      simp
    have s2 : lsubO s ((a.length : Int) + 1) (s.length : Int) = some b := by
      rw [lsubO_eq (by omega), heq]
      have e : ((a.length : Int) + 1).toNat = a.length + 1 := by omega
      rw [e, Int.toNat_natCast]
      simp only [List.length_append, List.length_cons]
      rw [show (a ++ 61 :: b) = (a ++ [61]) ++ b by simp, List.drop_left' (by simp)]
      rw [List.take_of_length_le (show b.length ≤ a.length + (b.length + 1) - (a.length + 1) by omega)]
    rw [s1, bS, show ((k_x3d.length : Int)) = 1 from rfl, addO_eq (by omega), bS, s2, bS, bS]
/-- Some pieces more than may be, or one that may not be: none. -/
theorem mayN_app (a b : List T_Rdn) (h : a.all mayR = false ∨ b.all mayR = false ∨ 8 < a.length + b.length) : mayN (a ++ b) = false := by
  unfold mayN
  rw [List.all_append]
  rcases h with h | h | h
  · simp [h]
  · simp [h]
  · rw [decide_eq_false (by simp; omega)]; simp
theorem parR_cons (p : Str) (l : List Str) : parR (p :: l) = match rdnR p with
    | none => none
    | some r => (parR l).map fun x => r :: x := rfl
def endP (o : List T_Rdn) (m : Option (List T_Rdn)) : List T_Rdn × Bool := match m with
  | none => ([], false)
  | some l => if mayN (o ++ l) = true then (o ++ l, true) else ([], false)
theorem endP_bad (o : List T_Rdn) (m : Option (List T_Rdn)) (h : ∀ l, m = some l → mayN (o ++ l) = false) : endP o m = ([], false) := by
  unfold endP
  cases m with
  | none => rfl
  | some l => simp [h l rfl]
end Go.Ka
namespace Go.Ka
set_option maxRecDepth 100000

theorem dn_May_l1_eq : ∀ (t a : List T_Rdn) (g : Nat), t.length < g → (a ++ t).length ≤ 100000000 → (∀ r ∈ t, r.Typ.length ≤ 100000000 ∧ r.Val.length ≤ 100000000) → dn_May_l1 (a ++ t) g (a.length : Int) = some (t.all mayR && decide ((a ++ t).length ≤ 8))
  | [], a, g, hg, hl, hp => by
    obtain ⟨g, rfl⟩ := pos_of hg
    simp only [dn_May_l1, at_e, cF, dn_May_k1, List.all_nil, Bool.true_and]
    congr 1
    by_cases h : (a ++ []).length ≤ 8
    · rw [decide_eq_true h, decide_eq_true (by omega)]
    · rw [decide_eq_false h, decide_eq_false (by omega)]
  | r :: t, a, g, hg, hl, hp => by
    obtain ⟨g, rfl⟩ := pos_of hg
    obtain ⟨h1, h2, h3, h4⟩ := at_c a r t (by omega)
    have hr := hp r (by simp)
    have e : decide ((r.Val.length : Int) > 100) = !decide (r.Val.length ≤ 100) := by
      by_cases h0 : r.Val.length ≤ 100
      · rw [decide_eq_true h0, decide_eq_false (by omega)]; rfl
      · rw [decide_eq_false h0, decide_eq_true (by omega)]; rfl
    have ih := dn_May_l1_eq t (a ++ [r]) g (by simp at hg; omega) (by rw [← h4]; exact hl) (fun q hq => hp q (by simp [hq]))
    rw [← h4] at ih
    simp only [dn_May_l1, h1, cT, h2, bS, e_dn_typed r.Typ (by omega), h3, ih, e, List.all_cons, mayR]
    cases mayT r.Typ <;> cases r.Val == [] <;> cases decide (r.Val.length ≤ 100) <;> simp
theorem e_dn_May (l : List T_Rdn) (h : l.length ≤ 100000000) (hp : ∀ r ∈ l, r.Typ.length ≤ 100000000 ∧ r.Val.length ≤ 100000000) : s_dn_May l = some (mayN l) := by
  have := dn_May_l1_eq l [] FUEL (fuel_gt (by omega)) h hp
  simp only [List.nil_append, nil_len] at this
  exact this
theorem endP_cons (o : List T_Rdn) (r : T_Rdn) (m : Option (List T_Rdn)) : endP o (m.map fun x => r :: x) = endP (o ++ [r]) m := by
  cases m with
  | none => rfl
  | some l => simp [endP]
theorem dn_Parse_l1_eq : ∀ (n : Nat) (s : Str) (o : List T_Rdn) (g : Nat), s.length ≤ n → s.length + 1 < g → s.length ≤ 10000000 → o.length + s.length ≤ 100000000 → (∀ r ∈ o, r.Typ.length ≤ 100000000 ∧ r.Val.length ≤ 100000000) →
    dn_Parse_l1 g s true o = some (endP o (parR (cutG [] s))) := by
  intro n
  induction n with
  | zero =>
    intro s o g hn hg hl ho hr
    have : s = [] := List.length_eq_zero_iff.1 (by omega)
    subst this
    obtain ⟨g, rfl⟩ := pos_of hg
    simp only [dn_Parse_l1, cT, e_Cut [] (by simp)]
    rfl
  | succ n ih =>
    intro s o g hn hg hl ho hr
    obtain ⟨g, rfl⟩ := pos_of hg
    have hsp := (pcs_split s.length s (Nat.le_refl _)).1
    have hcut := cutG_pcs s.length s [] (Nat.le_refl _)
    rw [List.nil_append] at hcut
    simp only [dn_Parse_l1, cT, e_Cut s (by omega), bS]
    rw [hcut, parR_cons]
    cases hb : brk s with
    | none =>
      have hp : brk (pcs s).1 = none := by
        cases h : brk (pcs s).1 with
        | none => rfl
        | some x =>
          have := brk_pre (pcs s).1 (pcs s).2 x.1 x.2 h
          rw [← hsp, hb] at this
          cases this
      simp only [rdnR, hp]
      rfl
    | some ab =>
      obtain ⟨a, b⟩ := ab
      have hlen := brk_len s a b hb
      have heq := brk_eq s a b hb
      simp only [Bool.not_true, cF, e_dn_typed a (by omega), bS]
      cases hm : mayT a with
      | false =>
        simp only [Bool.not_false, cT, bS]
        congr 1
        symm
        refine endP_bad _ _ fun l hl' => ?_
        unfold rdnR at hl'
        cases h : brk (pcs s).1 with
        | none => rw [h] at hl'; cases hl'
        | some x =>
          obtain ⟨x, y⟩ := x
          have hx := brk_pre (pcs s).1 (pcs s).2 x y h
          rw [← hsp, hb] at hx
          have hxa : a = x := (Prod.mk.inj (Option.some.inj hx)).1
          subst hxa
          rw [h] at hl'
          cases hv : valG true false y [] with
          | none => simp [hv] at hl'
          | some v =>
            simp only [hv, Option.map_some, Option.map_eq_some_iff] at hl'
            obtain ⟨m, _, rfl⟩ := hl'
            exact mayN_app _ _ (.inr (.inl (by simp [mayR, hm])))
      | true =>
        simp only [Bool.not_true, cF, bS]
        have hno := mayT_all hm
        have hpcs : pcs s = (a ++ 61 :: (pcs b).1, (pcs b).2) := by rw [heq]; exact pcs_typ a b fun c hc => ⟨(typ8_no c (hno c hc)).1, (typ8_no c (hno c hc)).2.1⟩
        have hbp : brk (a ++ 61 :: (pcs b).1) = some (a, (pcs b).1) := brk_typ _ _ fun c hc => (typ8_no c (hno c hc)).2.2
        obtain ⟨x, hx, hx2⟩ := e_dn_value b (by omega)
        rw [valP_pcs b.length b [] true false (Nat.le_refl _)] at hx2
        rw [hpcs]
        simp only [rdnR, hbp, hx, bS]
        by_cases h8 : o.length = 8
        · rw [show ((o.length : Int) == 8) = true by rw [h8]; rfl, cT]
          congr 1
          symm
          refine endP_bad _ _ fun l hl' => ?_
          cases hv : valG true false (pcs b).1 [] with
          | none => simp [hv] at hl'
          | some v =>
            simp only [hv, Option.map_some, Option.map_eq_some_iff] at hl'
            obtain ⟨m, _, rfl⟩ := hl'
            exact mayN_app _ _ (.inr (.inr (by simp; omega)))
        · rw [show ((o.length : Int) == 8) = false by rw [beq_eq_false_iff_ne]; omega, cF]
          cases hv : valG true false (pcs b).1 [] with
          | none =>
            rw [hv] at hx2
            simp only [Option.map_none] at hx2
            rw [hx2]
            rfl
          | some v =>
            rw [hv] at hx2
            simp only [Option.map_some] at hx2
            subst hx2
            have hvl := valG_len (pcs b).1.length (pcs b).1 [] v _ _ (Nat.le_refl _) hv
            have hbs := pcs_split b.length b (Nat.le_refl _)
            have hbl : (pcs b).1.length + (pcs b).2.length = b.length := by
              have := congrArg List.length hbs.1
              rw [List.length_append] at this
              omega
            simp only [List.length_nil, Nat.zero_add] at hvl
            have app : appO 32 o [(⟨a, v⟩ : T_Rdn)] = some (o ++ [⟨a, v⟩]) := appO_eq (by simp; omega)
            have hr' : ∀ r ∈ o ++ [(⟨a, v⟩ : T_Rdn)], r.Typ.length ≤ 100000000 ∧ r.Val.length ≤ 100000000 := fun r h => by
              rcases List.mem_append.1 h with h | h
              · exact hr r h
              · simp only [List.mem_singleton] at h
                subst h
                simp only
                omega
            simp only [Bool.not_true, cF, app, bS, Option.map_some]
            rcases hbs.2 with h0 | ⟨r', h0⟩
            · rw [h0]
              rw [show (!(([] : Str) == [])) = false from rfl, cF]
              obtain ⟨g, rfl⟩ := pos_of (show 0 < g by omega)
              simp only [dn_Parse_l1, cF, dn_Parse_k1, e_dn_May (o ++ [⟨a, v⟩]) (by simp; omega) hr', bS]
              rw [endP_cons]
              show _ = some (if mayN (o ++ [(⟨a, v⟩ : T_Rdn)] ++ []) = true then (o ++ [(⟨a, v⟩ : T_Rdn)] ++ [], true) else ([], false))
              rw [List.append_nil]
              cases mayN (o ++ [(⟨a, v⟩ : T_Rdn)]) <;> rfl
            · rw [h0]
              have hrl : r'.length + 1 ≤ b.length := by rw [← hbl, h0]; simp
              rw [show (!((44 :: r' : Str) == [])) = true from rfl, cT]
              have hs : lsubO (44 :: r' : Str) 1 ((44 :: r' : Str).length : Int) = some r' := by
                rw [lsubO_eq (by simp; omega)]
                simp
              rw [hs]
              simp only [bS]
              have := ih r' (o ++ [(⟨a, v⟩ : T_Rdn)]) g (by omega) (by omega) (by omega) (by simp; omega) hr'
              rw [endP_cons]
              exact this
theorem e_dn_Parse (s : Str) (h : s.length ≤ 10000000) : s_dn_Parse s = some ((parS s).getD [], (parS s).isSome) := by
  unfold s_dn_Parse parS
  by_cases h0 : s = []
  · subst h0
    obtain ⟨g, hg⟩ : ∃ g, FUEL = g + 1 := pos_of (fuel_gt (Nat.zero_le _))
    rw [hg]
    simp only [dn_Parse_l1, dn_Parse_k1, show (!(([] : Str) == [])) = false from rfl, cF, e_dn_May [] (by simp) (by simp), bS]
    rfl
  · rw [show (!(s == [])) = true by simpa using h0, if_neg h0, dn_Parse_l1_eq s.length s [] FUEL (Nat.le_refl _) (by have := fuel_gt (n := s.length + 1) (by omega); omega) h (by simp; omega) (by simp)]
    congr 1
    unfold endP
    cases parR (cutG [] s) with
    | none => rfl
    | some l =>
      simp only [List.nil_append, Option.bind_some]
      cases mayN l <;> simp

/-! Keys. -/
theorem parS_may {s : Str} {l : List T_Rdn} (h : parS s = some l) : mayN l = true := by
  unfold parS at h
  split at h
  · cases h; rfl
  · cases hp : parR (cutG [] s) with
    | none => rw [hp] at h; cases h
    | some m =>
      rw [hp] at h
      simp only [Option.bind_some] at h
      split at h
      · rename_i hm; cases h; exact hm
      · cases h
theorem mayN_len {l : List T_Rdn} (h : mayN l = true) : l.length ≤ 8 ∧ ∀ r ∈ l, r.Typ.length ≤ 30 ∧ r.Val.length ≤ 100 := by
  unfold mayN at h
  rw [Bool.and_eq_true] at h
  refine ⟨of_decide_eq_true h.2, fun r hr => ?_⟩
  have := List.all_eq_true.1 h.1 r hr
  unfold mayR at this
  rw [Bool.and_eq_true, Bool.and_eq_true] at this
  refine ⟨?_, of_decide_eq_true this.2⟩
  have ht := this.1.1
  unfold mayT at ht
  split at ht
  · cases ht
  · rw [Bool.and_eq_true, Bool.and_eq_true] at ht
    exact of_decide_eq_true ht.1.1
/-- A name in small letters and folded; none, where a value is blank. -/
def foldN : List T_Rdn → Option (List T_Rdn)
  | [] => some []
  | r :: l => if foldS r.Val = [] then none else (foldN l).map fun x => ⟨lowS r.Typ, foldS r.Val⟩ :: x
def keyS (s : Str) : Option Str := (parS s).bind fun l => (foldN l).map textS
theorem foldS_len (s : Str) : (foldS s).length ≤ 2 * s.length := by
  have := foldG_len (lowS s) [] false
  rw [lowS_len, List.length_nil, Nat.zero_add] at this
  exact this
theorem foldN_len : ∀ (l m : List T_Rdn), foldN l = some m → m.length = l.length ∧ rdnsLen m ≤ 2 * rdnsLen l
  | [], m, h => by cases h; simp [rdnsLen]
  | r :: l, m, h => by
    unfold foldN at h
    split at h
    · cases h
    · cases hl : foldN l with
      | none => rw [hl] at h; cases h
      | some k =>
        rw [hl] at h
        cases h
        have := foldN_len l k hl
        have := foldS_len r.Val
        simp [rdnsLen] at *
        omega
theorem rdns_small {l : List T_Rdn} (h : mayN l = true) : rdnsLen l ≤ 8 * 332 := by
  have hl := mayN_len h
  have : ∀ (m : List T_Rdn), (∀ r ∈ m, r.Typ.length ≤ 30 ∧ r.Val.length ≤ 100) → rdnsLen m ≤ m.length * 332 := by
    intro m
    induction m with
    | nil => intro _; simp [rdnsLen]
    | cons r m ih =>
      intro hm
      have h1 := hm r (by simp)
      have h2 := ih fun q hq => hm q (by simp [hq])
      simp [rdnsLen] at *
      omega
  have := this l hl.2
  omega
theorem r1_Key_l1_eq (d : T_R1Dn) : ∀ (t a o : List T_Rdn) (g : Nat), d.L = a ++ t → t.length < g → (a ++ t).length ≤ 8 → o.length = a.length → rdnsLen o + 2 * rdnsLen t ≤ 100000 → (∀ r ∈ t, r.Typ.length ≤ 30 ∧ r.Val.length ≤ 100) →
    r1_Key_l1 d g (a.length : Int) o = some (match foldN t with | none => ⟨[], false⟩ | some m => ⟨textS (o ++ m), true⟩)
  | [], a, o, g, hd, hg, hl, ho, hs, hr => by
    obtain ⟨g, rfl⟩ := pos_of hg
    simp only [r1_Key_l1, hd, at_e, cF, r1_Key_k1, foldN]
    rw [e_r1_TextDn o (by simp [rdnsLen] at hs ⊢; omega) (by simp at hl; omega), List.append_nil]
    rfl
  | r :: t, a, o, g, hd, hg, hl, ho, hs, hr => by
    obtain ⟨g, rfl⟩ := pos_of hg
    obtain ⟨h1, h2, h3, h4⟩ := at_c a r t (by omega)
    have hr0 := hr r (by simp)
    have hf := foldS_len r.Val
    simp only [rdnsLen, List.map_cons, List.sum_cons] at hs
    have hl' := hl
    simp only [List.length_append, List.length_cons] at hl
    simp only [r1_Key_l1, hd, h1, cT, h2, bS, e_r1_Lower r.Typ (by omega), e_r1_Fold r.Val (by omega), h3]
    unfold foldN
    by_cases h0 : foldS r.Val = []
    · rw [if_pos h0, h0]; rfl
    · have app : appO 32 o [(⟨lowS r.Typ, foldS r.Val⟩ : T_Rdn)] = some (o ++ [(⟨lowS r.Typ, foldS r.Val⟩ : T_Rdn)]) := appO_eq (by simp; omega)
      rw [if_neg h0, show (foldS r.Val == []) = false by simpa using h0, cF, app]
      simp only [bS]
      rw [r1_Key_l1_eq d t (a ++ [r]) (o ++ [(⟨lowS r.Typ, foldS r.Val⟩ : T_Rdn)]) g (by rw [hd, h4]) (by simp at hg; omega) (by rw [← h4]; exact hl') (by simp [ho]) (by simp [rdnsLen] at hs ⊢; omega) (fun q hq => hr q (by simp [hq]))]
      cases foldN t with
      | none => rfl
      | some m => simp
theorem e_r1_Key (s : Str) (h : s.length ≤ 10000000) : s_r1_Key s = some ⟨(keyS s).getD [], (keyS s).isSome⟩ := by
  unfold s_r1_Key keyS
  rw [e_r1_ParseDn s h]
  simp only [bS]
  cases hp : parS s with
  | none => rfl
  | some l =>
    have hm := parS_may hp
    have hl := mayN_len hm
    have hsm := rdns_small hm
    simp only [Option.getD_some, Option.isSome_some, Bool.not_true, cF, Option.bind_some]
    have := r1_Key_l1_eq ⟨l, true⟩ l [] [] FUEL rfl (fuel_gt (by omega)) (by simpa using hl.1) rfl (by simp [rdnsLen] at hsm ⊢; omega) hl.2
    rw [nil_len] at this
    rw [this]
    cases foldN l <;> simp
theorem dn_Key_l1_eq (d : List T_Rdn × Bool) : ∀ (t a : List T_Rdn) (g : Nat), d.1.length = (a ++ t).length → t.length < g → (a ++ t).length ≤ 8 → rdnsLen a + 2 * rdnsLen t ≤ 100000 → (∀ r ∈ t, r.Typ.length ≤ 30 ∧ r.Val.length ≤ 100) →
    dn_Key_l1 d g (a.length : Int) (a ++ t) = some (match foldN t with | none => ([], false) | some m => (textS (a ++ m), true))
  | [], a, g, hd, hg, hl, hs, hr => by
    obtain ⟨g, rfl⟩ := pos_of hg
    simp only [dn_Key_l1, hd, at_e, cF, dn_Key_k1, foldN]
    rw [List.append_nil, e_dn_Text a (by simp [rdnsLen] at hs ⊢; omega) (by simp at hl; omega)]
    rfl
  | r :: t, a, g, hd, hg, hl, hs, hr => by
    obtain ⟨g, rfl⟩ := pos_of hg
    obtain ⟨h1, h2, h3, h4⟩ := at_c a r t (by omega)
    have hr0 := hr r (by simp)
    have hf := foldS_len r.Val
    simp only [rdnsLen, List.map_cons, List.sum_cons] at hs
    have hl' := hl
    simp only [List.length_append, List.length_cons] at hl
    have e1 : ∀ x y : T_Rdn, lgetO (a ++ x :: t) (a.length : Int) = some x := fun x _ => (at_c a x t (by simp; omega)).2.1
    have e2 : ∀ x y : T_Rdn, (a ++ x :: t).set ((a.length : Int)).toNat y = a ++ y :: t := fun x y => by simp
    simp only [dn_Key_l1, hd, h1, cT, h2, bS, e_dn_lowered r.Typ (by omega), e_dn_Fold r.Val (by omega), e2, e1 _ r, h3]
    unfold foldN
    by_cases h0 : foldS r.Val = []
    · rw [if_pos h0, h0]; rfl
    · rw [if_neg h0, show (foldS r.Val == []) = false by simpa using h0, cF]
      have e3 : a ++ (⟨lowS r.Typ, foldS r.Val⟩ : T_Rdn) :: t = (a ++ [(⟨lowS r.Typ, foldS r.Val⟩ : T_Rdn)]) ++ t := by simp
      rw [len_snoc a r (⟨lowS r.Typ, foldS r.Val⟩ : T_Rdn), e3]
      rw [dn_Key_l1_eq d t (a ++ [(⟨lowS r.Typ, foldS r.Val⟩ : T_Rdn)]) g (by rw [hd]; simp) (by simp at hg; omega) (by simpa using hl') (by simp [rdnsLen] at hs ⊢; omega) (fun q hq => hr q (by simp [hq]))]
      cases foldN t with
      | none => rfl
      | some m => simp
theorem e_dn_Key (s : Str) (h : s.length ≤ 10000000) : s_dn_Key s = some ((keyS s).getD [], (keyS s).isSome) := by
  unfold s_dn_Key keyS
  rw [e_dn_Parse s h]
  simp only [bS]
  cases hp : parS s with
  | none => rfl
  | some l =>
    have hm := parS_may hp
    have hl := mayN_len hm
    have hsm := rdns_small hm
    simp only [Option.getD_some, Option.isSome_some, Bool.not_true, cF, Option.bind_some]
    have := dn_Key_l1_eq (l, true) l [] FUEL rfl (fuel_gt (by omega)) (by simpa using hl.1) (by simp [rdnsLen] at hsm ⊢; omega) hl.2
    rw [nil_len, List.nil_append] at this
    rw [this]
    cases foldN l <;> simp
end Go.Ka
namespace Go.Ka
set_option maxRecDepth 100000

theorem wrap_u64 {z : Int} (h : 0 ≤ z ∧ z < 18446744073709551616) : IntKind.wrap .u64 z = z := by
  simp only [IntKind.wrap, IntKind.signed, IntKind.bits]
  simp
  omega
theorem toU8_dig {k : Nat} (h : k < 10) : toU8 (48 + (k : Int)) = UInt8.ofNat (48 + k) := by
  unfold toU8
  congr 1
  omega
theorem dec_small {u : Nat} (h : u < 10) : Lib.decDigits u = [UInt8.ofNat (48 + u)] := Lib.decDigits_one h
theorem dec_big {u : Nat} (h : ¬ u < 10) : Lib.decDigits u = Lib.decDigits (u / 10) ++ [UInt8.ofNat (48 + u % 10)] := by
  conv => lhs; unfold Lib.decDigits
  rw [dif_neg h]
theorem dec_len {u : Nat} (h : u < 18446744073709551616) : (Lib.decDigits u).length ≤ 20 := by rw [Lib.decDigits_length]; exact Lib.nDigits_le20 u h
theorem r1_Digits_k2_eq (p0 : Int) (u : Nat) (s : Str) (h10 : u < 10) (hs : s.length ≤ 100) : r1_Digits_k2 p0 (u : Int) s = some ((if p0 < 0 then [45] else []) ++ (Lib.decDigits u ++ s)) := by
  unfold r1_Digits_k2
  have r3 : arZ .add .u64 48 ((u : Nat) : Int) = some (48 + ((u : Nat) : Int)) := by unfold arZ; rw [wrap_u64 (by omega)]
  rw [r3, bS, toU8_dig h10, catO_eq (by simp; omega), bS, dec_small h10]
  by_cases hp : p0 < 0
  · rw [decide_eq_true hp, cT, if_pos hp, catO_eq (by simp; omega)]; rfl
  · rw [decide_eq_false hp, cF, if_neg hp]; rfl
theorem r1_Digits_l1_eq (p0 : Int) : ∀ (k u : Nat) (s : Str) (g : Nat), u < 10 ^ (k + 1) → k < g → u < 18446744073709551616 → s.length + k ≤ 50 →
    r1_Digits_l1 p0 g (u : Int) s = some ((if p0 < 0 then [45] else []) ++ (Lib.decDigits u ++ s)) := by
  intro k
  induction k with
  | zero =>
    intro u s g hn hg hu hs
    obtain ⟨g, rfl⟩ := pos_of hg
    simp only [r1_Digits_l1, decide_eq_false (show ¬ ((u : Nat) : Int) ≥ 10 by omega), cF]
    exact r1_Digits_k2_eq p0 u s (by omega) (by omega)
  | succ k ih =>
    intro u s g hn hg hu hs
    obtain ⟨g, rfl⟩ := pos_of hg
    by_cases h10 : u < 10
    · simp only [r1_Digits_l1, decide_eq_false (show ¬ ((u : Nat) : Int) ≥ 10 by omega), cF]
      exact r1_Digits_k2_eq p0 u s h10 (by omega)
    · have m1 : ((u : Int).tmod 10) = ((u % 10 : Nat) : Int) := rfl
      have m2 : ((u : Int).tdiv 10) = ((u / 10 : Nat) : Int) := rfl
      have r1 : arZ .rem .u64 (u : Int) 10 = some ((u % 10 : Nat) : Int) := by unfold arZ remO; rw [← m1]; exact okO_eq (by decide)
      have r2 : arZ .quo .u64 (u : Int) 10 = some ((u / 10 : Nat) : Int) := by
        rw [← wrap_u64 (z := ((u / 10 : Nat) : Int)) (by omega), ← m2]; exact okO_eq (by decide)
      have r3 : arZ .add .u64 48 ((u % 10 : Nat) : Int) = some (48 + ((u % 10 : Nat) : Int)) := by unfold arZ; rw [wrap_u64 (by omega)]
      simp only [r1_Digits_l1, decide_eq_true (show ((u : Nat) : Int) ≥ 10 by omega), cT, r1, r2, r3, bS]
      rw [toU8_dig (by omega), catO_eq (by simp; omega)]
      simp only [bS]
      rw [ih (u / 10) _ g (by rw [Nat.pow_succ] at hn; omega) (by omega) (by omega) (by simp; omega), dec_big h10]
      simp
theorem wrap_pos {n : Int} (h : 0 ≤ n ∧ n < 9223372036854775808) : IntKind.wrap .u64 n = ((n.natAbs : Nat) : Int) := by rw [wrap_u64 (by omega)]; omega
theorem wrap_neg {n : Int} (h : -9223372036854775808 ≤ n ∧ n < 0) : IntKind.wrap .u64 (0 - IntKind.wrap .u64 n) = ((n.natAbs : Nat) : Int) := by
  simp only [IntKind.wrap, IntKind.signed, IntKind.bits]
  simp
  omega
theorem e_r1_Digits (n : Int) (h : -9223372036854775808 ≤ n ∧ n < 9223372036854775808) : s_r1_Digits n = some (Lib.itoa n) := by
  have hx := r1_Digits_l1_eq n 20 n.natAbs [] FUEL (by omega) (fuel_gt (by omega)) (by omega) (by simp)
  rw [List.append_nil] at hx
  unfold s_r1_Digits r1_Digits_k1 Lib.itoa
  by_cases hn : n < 0
  · rw [decide_eq_true hn, cT, wrap_neg ⟨h.1, hn⟩, hx, if_pos hn, if_pos hn]; rfl
  · rw [decide_eq_false hn, cF, wrap_pos ⟨by omega, h.2⟩, hx, if_neg hn, if_neg hn, show n.natAbs = n.toNat by omega]; rfl

/-! A number, and whether a text is one. -/
def isDig (c : UInt8) : Bool := decide (48 ≤ c.toNat) && decide (c.toNat ≤ 57)
/-- What stands behind the sign. -/
def tailN (s : Str) : Str := match s with
  | [] => []
  | c :: r => if c = 45 then r else c :: r
/-- A number of at most 15 digits, as it is written. -/
def numS (s : Str) : Bool := match Lib.atoi s with
  | none => false
  | some v => Lib.itoa v == s && decide ((tailN s).length ≤ 15)
theorem dig_lt (c : UInt8) : ((bif decide (c < 48) then some true else some (decide (57 < c))) : Option Bool) = some (!isDig c) := by
  have := u8_every (p := fun c => ((bif decide (c < 48) then some true else some (decide (57 < c))) : Option Bool) == some (!isDig c)) (by decide +kernel) c
  exact eq_of_beq this
theorem dig_val (c : UInt8) : Lib.digitVal c = if isDig c = true then some (c - 48).toNat else none := by
  have := u8_every (p := fun c => Lib.digitVal c == if isDig c = true then some (c - 48).toNat else none) (by decide +kernel) c
  exact eq_of_beq this
theorem dig_small {c : UInt8} (h : isDig c = true) : (c - 48).toNat ≤ 9 := by
  have := u8_every (p := fun c => !isDig c || decide ((c - 48).toNat ≤ 9)) (by decide +kernel) c
  rw [h] at this
  simpa using this
/-- The reference's walk over the digits. -/
theorem r1_Number_l1_eq (v4 : Int) : ∀ (t a : Str) (m g : Nat), t.length < g → (a ++ t).length ≤ 1000 → m < 10 ^ a.length → t.length + a.length ≤ 17 →
    r1_Number_l1 (a ++ t) v4 g (m : Int) (a.length : Int) = match Lib.decFrom m t with | none => some ⟨0, false⟩ | some n => r1_Number_k2 (a ++ t) v4 (n : Int)
  | [], a, m, g, hg, hl, hm, hk => by
    obtain ⟨g, rfl⟩ := pos_of hg
    simp only [r1_Number_l1, at_e, cF, Lib.decFrom]
  | c :: t, a, m, g, hg, hl, hm, hk => by
    obtain ⟨g, rfl⟩ := pos_of hg
    obtain ⟨h1, h2, h3, h4⟩ := at_c a c t (by omega)
    have hm17 : m < 10 ^ 17 := Nat.lt_of_lt_of_le hm (Nat.pow_le_pow_right (by decide) (by omega))
    simp only [r1_Number_l1, h1, h2, cT, bS, dig_lt, h3]
    rw [Lib.decFrom, dig_val]
    cases hd : isDig c with
    | false => rfl
    | true =>
      have hs := dig_small hd
      simp only [Bool.not_true, cF, if_true]
      rw [mulO_eq (by omega), bS, addO_eq (by omega), bS]
      have e : (m : Int) * 10 + (((c - 48).toNat : Nat) : Int) = ((m * 10 + (c - 48).toNat : Nat) : Int) := by omega
      rw [e, h4, r1_Number_l1_eq v4 t (a ++ [c]) (m * 10 + (c - 48).toNat) g (by simp at hg; omega) (by rw [← h4]; exact hl) (by rw [List.length_append, List.length_singleton, Nat.pow_succ]; omega) (by simp at hk ⊢; omega)]
theorem dec_dig : ∀ (n u : Nat), u ≤ n → ∀ c ∈ Lib.decDigits u, isDig c = true := by
  have d : ∀ k, k < 10 → isDig (UInt8.ofNat (48 + k)) = true := by decide
  intro n
  induction n with
  | zero =>
    intro u hu c hc
    rw [dec_small (by omega)] at hc
    rw [List.mem_singleton.1 hc]
    exact d u (by omega)
  | succ n ih =>
    intro u hu c hc
    by_cases h10 : u < 10
    · rw [dec_small h10] at hc
      rw [List.mem_singleton.1 hc]
      exact d u h10
    · rw [dec_big h10] at hc
      rcases List.mem_append.1 hc with hc | hc
      · exact ih (u / 10) (by omega) c hc
      · rw [List.mem_singleton.1 hc]
        exact d _ (by omega)
theorem itoa_plus (n : Int) (r : Str) : (Lib.itoa n == 43 :: r) = false := by
  rw [beq_eq_false_iff_ne]
  intro h
  unfold Lib.itoa at h
  split at h
  · injection h with h _; revert h; decide
  · have := dec_dig n.toNat n.toNat (Nat.le_refl _) 43 (by rw [h]; simp)
    revert this; decide
def numR (s : Str) : T_R1Num := if numS s = true then ⟨(Lib.atoi s).getD 0, true⟩ else ⟨0, false⟩
theorem numS_long {s : Str} (h : 15 < (tailN s).length) : numS s = false := by
  unfold numS
  cases Lib.atoi s with
  | none => rfl
  | some v => simp only [decide_eq_false (show ¬ (tailN s).length ≤ 15 by omega), Bool.and_false]
theorem wI64 {z : Int} (h : -9223372036854775808 ≤ z ∧ z < 9223372036854775808) : IntKind.wrap .i64 z = z := by
  simp only [IntKind.wrap, IntKind.signed, IntKind.bits]
  simp
  omega
theorem pow15 {r : Str} {n : Nat} (h : Lib.decFrom 0 r = some n) (hl : r.length ≤ 15) : n < 10 ^ 15 := by
  have h1 := Lib.decFrom_lt r 0 n h
  have hp : 10 ^ r.length ≤ 10 ^ 15 := Nat.pow_le_pow_right (by decide) hl
  omega
theorem e_r1_Number (s : Str) (h : s.length ≤ 1000) : s_r1_Number s = some (numR s) := by
  cases s with
  | nil => rfl
  | cons c r =>
    have hg : lgetO (c :: r) 0 = some c := rfl
    have hlen : (((c :: r : Str).length : Nat) : Int) = (r.length : Int) + 1 := by simp
    unfold s_r1_Number
    rw [show (!((c :: r : Str) == [])) = true from rfl, cT, hg]
    simp only [bS]
    by_cases hc : c = 45
    · subst hc
      rw [show ((45 : UInt8) == 45) = true from rfl, cT]
      unfold r1_Number_k1
      by_cases hr : r = []
      · subst hr; rfl
      · have hr0 : 0 < r.length := List.length_pos_iff.2 hr
        rw [show ((((45 :: r : Str).length : Nat) : Int) == 1) = false by rw [hlen, beq_eq_false_iff_ne]; omega, cF, hlen, subO_eq (by simp at h; omega)]
        simp only [bS]
        have ht : tailN (45 :: r) = r := rfl
        by_cases hl : 15 < r.length
        · rw [decide_eq_true (show (r.length : Int) + 1 - 1 > 15 by omega), cT, numR, numS_long (by rw [ht]; exact hl)]; rfl
        · rw [decide_eq_false (show ¬ (r.length : Int) + 1 - 1 > 15 by omega), cF]
          have := r1_Number_l1_eq 1 r [45] 0 FUEL (fuel_gt (by omega)) (by simp at h ⊢; omega) (by decide) (by simp; omega)
          rw [show (([45] : Str) ++ r) = 45 :: r from rfl, show ((([45] : Str).length : Nat) : Int) = 1 from rfl] at this
          rw [show ((0 : Nat) : Int) = 0 from rfl] at this
          rw [this]
          have ha : Lib.atoi (45 :: r) = (Lib.decFrom 0 r).map fun (m : Nat) => -(m : Int) := by
            simp only [Lib.atoi, Lib.decNat]
            rw [if_pos (by decide), if_neg (by simpa using hr)]
          cases hd : Lib.decFrom 0 r with
          | none => rw [hd] at ha; unfold numR numS; rw [ha]; rfl
          | some n =>
            have hn := pow15 hd (by omega)
            rw [hd] at ha
            simp only
            unfold r1_Number_k2
            rw [show ((1 : Int) == 1) = true from rfl, cT, wI64 (by omega), e_r1_Digits _ (by omega)]
            simp only [bS]
            unfold numR numS
            rw [ha]
            simp only [Option.map_some, ht, decide_eq_true (show r.length ≤ 15 by omega), Bool.and_true, Option.getD_some]
            rw [show (0 - (n : Int)) = -(n : Int) by omega]
            cases (Lib.itoa (-(n : Int)) == 45 :: r) <;> rfl
    · rw [show (c == 45) = false by simpa using hc, cF]
      have ht : tailN (c :: r) = c :: r := if_neg hc
      unfold r1_Number_k1
      rw [show ((((c :: r : Str).length : Nat) : Int) == 0) = false by rw [hlen, beq_eq_false_iff_ne]; omega, cF, hlen, subO_eq (by simp at h; omega)]
      simp only [bS]
      by_cases hl : 15 < (c :: r : Str).length
      · rw [decide_eq_true (show (r.length : Int) + 1 - 0 > 15 by simp at hl; omega), cT, numR, numS_long (by rw [ht]; exact hl)]; rfl
      · have hl2 : r.length ≤ 14 := by simp at hl; omega
        rw [decide_eq_false (show ¬ (r.length : Int) + 1 - 0 > 15 by omega), cF]
        have := r1_Number_l1_eq 0 (c :: r) [] 0 FUEL (fuel_gt (by simp; omega)) (by simpa using h) (by decide) (by simp; omega)
        rw [nil_len, List.nil_append, show ((0 : Nat) : Int) = 0 from rfl] at this
        rw [this]
        have ha : c ≠ 43 → Lib.atoi (c :: r) = (Lib.decFrom 0 (c :: r)).map fun (m : Nat) => (m : Int) := fun h43 => by
          simp only [Lib.atoi, Lib.decNat]
          rw [if_neg (by simpa using hc), if_neg (by simpa using h43), if_neg (by simp)]
        cases hd : Lib.decFrom 0 (c :: r) with
        | none =>
          by_cases h43 : c = 43
          · subst h43
            unfold numR numS
            cases Lib.atoi (43 :: r) with
            | none => rfl
            | some v => simp only [itoa_plus, Bool.false_and]; rfl
          · rw [hd] at ha; unfold numR numS; rw [ha h43]; rfl
        | some n =>
          have h43 : c ≠ 43 := by
            rintro rfl
            rw [Lib.decFrom] at hd
            cases hd
          have hn := pow15 hd (by simp; omega)
          rw [hd] at ha
          simp only
          unfold r1_Number_k2
          rw [show ((0 : Int) == 1) = false from rfl, cF, e_r1_Digits _ (by omega)]
          simp only [bS]
          unfold numR numS
          rw [ha h43]
          simp only [Option.map_some, ht, decide_eq_true (show (c :: r : Str).length ≤ 15 by simp; omega), Bool.and_true, Option.getD_some]
          cases (Lib.itoa (n : Int) == c :: r) <;> rfl
theorem trim_tail (s : Str) : Lib.trimPrefix s [45] = tailN s := by
  cases s with
  | nil => rfl
  | cons c r =>
    unfold Lib.trimPrefix tailN
    by_cases hc : c = 45
    · subst hc; simp [Lib.hasPrefix]
    · simp [Lib.hasPrefix, hc]
      intro h; exact absurd h.symm hc
theorem e_match_number (s : Str) (h : s.length ≤ 1000) : s_match_number s = some (numS s) := by
  have ha : s_atoi s = some (match Lib.atoiAll s with
      | .ok v => (v, false)
      | .range => (Lib.atoiSat s, true)
      | _ => (0, true)) := okO_eq (by simp; omega)
  have hp : s_trimPrefix s k_x2d = some (tailN s) := by unfold s_trimPrefix; rw [trim_tail]
  have e : decide (((tailN s).length : Int) ≤ 15) = decide ((tailN s).length ≤ 15) := by
    by_cases h0 : (tailN s).length ≤ 15
    · rw [decide_eq_true h0, decide_eq_true (by omega)]
    · rw [decide_eq_false h0, decide_eq_false (by omega)]
  unfold s_match_number
  rw [ha]
  simp only [bS, hp, e]
  by_cases hs : s.length ≤ 18
  · rw [Lib.atoiAll_short s hs]
    unfold numS
    cases hv : Lib.atoi s with
    | none => rfl
    | some v =>
      have hb := Lib.atoi_bound hv hs
      have hi : s_itoa v = some (Lib.itoa v) := okO_eq (inR_iff.2 (by omega))
      simp only [Lib.NumEnd.ofOption, Bool.not_false, cT, hi, bS]
      cases Lib.itoa v == s <;> rfl
  · have ht : ¬ (tailN s).length ≤ 15 := by
      cases s with
      | nil => simp at hs
      | cons c r =>
        rw [List.length_cons] at hs
        simp only [tailN]
        split
        · omega
        · rw [List.length_cons]; omega
    rw [numS_long (by omega), decide_eq_false ht]
    cases hv : Lib.atoiAll s with
    | ok v =>
      have hb := Lib.atoiAll_bounds hv
      have hi : s_itoa v = some (Lib.itoa v) := okO_eq (inR_iff.2 (by omega))
      simp only [Bool.not_false, cT, hi, bS]
      cases Lib.itoa v == s <;> rfl
    | range => rfl
    | _ => rfl
end Go.Ka
namespace Go.Ka
set_option maxRecDepth 100000

theorem low8_low8 (c : UInt8) : low8 (low8 c) = low8 c := by
  have := u8_every (p := fun c => low8 (low8 c) == low8 c) (by decide +kernel) c
  exact eq_of_beq this
theorem lowS_lowS (s : Str) : lowS (lowS s) = lowS s := by simp [lowS, low8_low8]
/-- The rule of a type in small letters; 0: there is none. -/
def ruleL (p0 : Str) : Int := bif (p0 == k_uidnumber) then 2 else bif (p0 == k_member) then 3 else bif (p0 == k_userpassword) then 4 else bif (p0 == k_objectclass) then 1 else bif (p0 == k_cn) then 1 else bif (p0 == k_sn) then 1 else bif (p0 == k_o) then 1 else bif (p0 == k_ou) then 1 else bif (p0 == k_uid) then 1 else bif (p0 == k_mail) then 1 else bif (p0 == k_description) then 1 else 0
def ruleS (p : Str) : Int := ruleL (lowS p)
theorem cond_map {α β : Type} (f : α → β) (b : Bool) (x y : α) : (bif b then f x else f y) = f (bif b then x else y) := by cases b <;> rfl
theorem e_match_rules (p : Str) : s_match_rules p = some (ruleL p) := by
  unfold s_match_rules ruleL
  simp only [cond_map (some : Int → Option Int)]
theorem ruleL_ref (v1 : Str) : (bif (v1 == k_objectclass) then some 1 else bif (v1 == k_cn) then some 1 else bif (v1 == k_sn) then some 1 else bif (v1 == k_o) then some 1 else bif (v1 == k_ou) then some 1 else bif (v1 == k_uid) then some 1 else bif (v1 == k_mail) then some 1 else bif (v1 == k_description) then some 1 else bif (v1 == k_uidnumber) then some 2 else bif (v1 == k_member) then some 3 else bif (v1 == k_userpassword) then some 4 else some 0) = some (ruleL v1) := by
  by_cases h1 : v1 = k_uidnumber
  · subst h1; rfl
  · by_cases h2 : v1 = k_member
    · subst h2; rfl
    · by_cases h3 : v1 = k_userpassword
      · subst h3; rfl
      · unfold ruleL
        rw [show (v1 == k_uidnumber) = false from beq_eq_false_iff_ne.2 h1, show (v1 == k_member) = false from beq_eq_false_iff_ne.2 h2, show (v1 == k_userpassword) = false from beq_eq_false_iff_ne.2 h3]
        simp only [cF, cond_map (some : Int → Option Int)]
theorem e_r1_Rule (p : Str) (h : p.length ≤ 1000000) : s_r1_Rule p = some (ruleS p) := by
  unfold s_r1_Rule
  rw [e_r1_Lower p (by omega)]
  simp only [bS]
  exact ruleL_ref (lowS p)
theorem e_match_Canon (p : Str) (h : p.length ≤ 1000000) : s_match_Canon p = some (if ruleS p = 0 then ([], false) else (lowS p, true)) := by
  unfold s_match_Canon
  rw [bytO_eq (by omega)]
  simp only [bS]
  have := match_Canon_l1_eq p p [] FUEL (fuel_gt (by omega)) (by simp; omega) rfl
  rw [nil_len, List.nil_append, List.nil_append] at this
  rw [this]
  unfold match_Canon_k1
  rw [e_match_rules]
  simp only [bS]
  by_cases h0 : ruleS p = 0
  · rw [if_pos h0, show ruleL (lowS p) = 0 from h0]; rfl
  · rw [if_neg h0, show (ruleL (lowS p) == 0) = false from beq_eq_false_iff_ne.2 h0]; rfl
theorem e_match_Rule (p : Str) (h : p.length ≤ 1000000) : s_match_Rule p = some (ruleS p) := by
  unfold s_match_Rule
  rw [e_match_Canon p h]
  simp only [bS, e_match_rules]
  by_cases h0 : ruleS p = 0
  · rw [if_pos h0, h0]; rfl
  · rw [if_neg h0]; rfl
theorem ruleS_low (p : Str) : ruleS (lowS p) = ruleS p := by unfold ruleS; rw [lowS_lowS]
/-- What alike values have in common. -/
def normS (typ v : Str) : Option Str :=
  if v = [] ∨ 100 < v.length then none
  else if ruleS typ = 1 then (if foldS v = [] then none else some (foldS v))
  else if ruleS typ = 2 then (if numS v = true then some v else none)
  else if ruleS typ = 3 then (match keyS v with | some k => if k = [] then none else some k | none => none)
  else if ruleS typ = 4 then some v
  else none
theorem normS_low (t v : Str) : normS (lowS t) v = normS t v := by unfold normS; rw [ruleS_low]
theorem len100 (v : Str) : decide ((v.length : Int) > 100) = decide (100 < v.length) := by
  by_cases h0 : 100 < v.length
  · rw [decide_eq_true h0, decide_eq_true (by omega)]
  · rw [decide_eq_false h0, decide_eq_false (by omega)]
theorem isNil (v : Str) : (v == []) = decide (v = []) := by cases v <;> rfl
theorem e_match_Norm (t v : Str) (h : t.length ≤ 1000000) : s_match_Norm t v = some ((normS t v).getD [], (normS t v).isSome) := by
  unfold s_match_Norm normS
  simp only [bifOr, len100, isNil, bS]
  by_cases h0 : v = [] ∨ 100 < v.length
  · rw [if_pos h0]
    have : (decide (v = []) || decide (100 < v.length)) = true := by simpa using h0
    rw [this]; rfl
  · rw [if_neg h0]
    have : (decide (v = []) || decide (100 < v.length)) = false := by simpa using h0
    rw [this, cF, e_match_Rule t h]
    have hv : v.length ≤ 100 := by omega
    have hn : decide (v = []) = false := by simpa using fun h => h0 (.inl h)
    simp only [bS, e_dn_Fold v (by omega), e_match_number v (by omega), e_dn_Key v (by omega), hn, bifOr, Bool.or_false]
    by_cases r1 : ruleS t = 1
    · rw [r1, if_pos rfl]
      by_cases hf : foldS v = []
      · rw [if_pos hf, hf]; rfl
      · rw [if_neg hf, decide_eq_false hf]; rfl
    · rw [show (ruleS t == 1) = false from beq_eq_false_iff_ne.2 r1, cF, if_neg r1]
      by_cases r2 : ruleS t = 2
      · rw [r2, if_pos rfl]
        cases numS v <;> rfl
      · rw [show (ruleS t == 2) = false from beq_eq_false_iff_ne.2 r2, cF, if_neg r2]
        by_cases r3 : ruleS t = 3
        · rw [r3, if_pos rfl]
          cases keyS v with
          | none => rfl
          | some k =>
            by_cases hk : k = []
            · subst hk; rfl
            · simp [hk]
        · rw [show (ruleS t == 3) = false from beq_eq_false_iff_ne.2 r3, cF, if_neg r3]
          by_cases r4 : ruleS t = 4
          · rw [r4, if_pos rfl]; rfl
          · rw [show (ruleS t == 4) = false from beq_eq_false_iff_ne.2 r4, cF, if_neg r4]; rfl
theorem e_r1_Norm (t v : Str) (h : t.length ≤ 1000000) : s_r1_Norm t v = some ⟨(normS t v).getD [], (normS t v).isSome⟩ := by
  unfold s_r1_Norm normS
  simp only [bifOr, len100, isNil, bS]
  by_cases h0 : v = [] ∨ 100 < v.length
  · rw [if_pos h0]
    have : (decide (v = []) || decide (100 < v.length)) = true := by simpa using h0
    rw [this]; rfl
  · rw [if_neg h0]
    have : (decide (v = []) || decide (100 < v.length)) = false := by simpa using h0
    rw [this, cF, e_r1_Rule t h]
    have hv : v.length ≤ 100 := by omega
    have hn : decide (v = []) = false := by simpa using fun h => h0 (.inl h)
    simp only [bS, e_r1_Fold v (by omega), e_r1_Number v (by omega), e_r1_Key v (by omega), bifAnd]
    by_cases r1 : ruleS t = 1
    · rw [r1, if_pos rfl]
      by_cases hf : foldS v = []
      · rw [if_pos hf, hf]; rfl
      · rw [if_neg hf, decide_eq_false hf]; rfl
    · rw [show (ruleS t == 1) = false from beq_eq_false_iff_ne.2 r1, cF, if_neg r1]
      by_cases r2 : ruleS t = 2
      · rw [r2, if_pos rfl]
        unfold numR
        cases numS v <;> rfl
      · rw [show (ruleS t == 2) = false from beq_eq_false_iff_ne.2 r2, cF, if_neg r2]
        by_cases r3 : ruleS t = 3
        · rw [r3, if_pos rfl]
          cases keyS v with
          | none => rfl
          | some k =>
            by_cases hk : k = []
            · subst hk; rfl
            · simp [hk]
        · rw [show (ruleS t == 3) = false from beq_eq_false_iff_ne.2 r3, cF, if_neg r3]
          by_cases r4 : ruleS t = 4
          · rw [r4, if_pos rfl]; rfl
          · rw [show (ruleS t == 4) = false from beq_eq_false_iff_ne.2 r4, cF, if_neg r4]; rfl
/-- Are two values alike? -/
def sameS (t a b : Str) : Bool := (normS t a).isSome && (normS t b).isSome && ((normS t a).getD [] == (normS t b).getD [])
theorem sameS_low (t a b : Str) : sameS (lowS t) a b = sameS t a b := by unfold sameS; rw [normS_low, normS_low]
theorem e_r1_SameVal (t a b : Str) (h : t.length ≤ 1000000) : s_r1_SameVal t a b = some (sameS t a b) := by
  unfold s_r1_SameVal sameS
  simp only [e_r1_Norm t _ h, bS]
  cases (normS t a).isSome <;> cases (normS t b).isSome <;> rfl
theorem e_match_Same (t a b : Str) (h : t.length ≤ 1000000) : s_match_Same t a b = some (sameS t a b) := by
  unfold s_match_Same s_match_norms sameS
  simp only [e_match_Norm t _ h, bS]
  cases (normS t a).isSome <;> cases (normS t b).isSome <;> rfl

/-! Lists of texts. -/
theorem slices_Index_l1_eq (x : Str) : ∀ (t a : List Str) (g : Nat), t.length < g → (a ++ t).length ≤ 100000000 →
    slices_Index_string_l1 (a ++ t) x g (a.length : Int) = some (match t.findIdx? (· == x) with | some k => ((a.length + k : Nat) : Int) | none => -1)
  | [], a, g, hg, hl => by
    obtain ⟨g, rfl⟩ := pos_of hg
    simp only [slices_Index_string_l1, at_e, cF, slices_Index_string_k1]
    rfl
  | c :: t, a, g, hg, hl => by
    obtain ⟨g, rfl⟩ := pos_of hg
    obtain ⟨h1, h2, h3, h4⟩ := at_c a c t (by omega)
    simp only [slices_Index_string_l1, h1, h2, cT, bS, h3]
    rw [List.findIdx?_cons]
    by_cases hc : c = x
    · subst hc
      simp
    · rw [show (x == c) = false from beq_eq_false_iff_ne.2 fun h => hc h.symm, show (c == x) = false from beq_eq_false_iff_ne.2 hc, cF, h4, slices_Index_l1_eq x t (a ++ [c]) g (by simp at hg; omega) (by rw [← h4]; exact hl)]
      cases t.findIdx? (· == x) with
      | none => rfl
      | some k =>
        show some (((a ++ [c]).length + k : Nat) : Int) = some ((a.length + (k + 1) : Nat) : Int)
        rw [List.length_append, List.length_singleton, Nat.add_assoc, Nat.add_comm 1 k]
theorem e_Contains (l : List Str) (x : Str) (h : l.length ≤ 100000000) : s_slices_Contains_string l x = some (l.any (· == x)) := by
  unfold s_slices_Contains_string s_slices_Index_string
  have := slices_Index_l1_eq x l [] FUEL (fuel_gt (by omega)) h
  rw [nil_len, List.nil_append] at this
  rw [this]
  simp only [bS]
  cases hf : l.findIdx? (· == x) with
  | none =>
    have : l.any (· == x) = false := by
      rw [List.findIdx?_eq_none_iff] at hf
      rw [List.any_eq_false]
      intro y hy; simp [hf y hy]
    rw [this]; rfl
  | some k =>
    have : l.any (· == x) = true := by
      rw [List.findIdx?_eq_some_iff_getElem] at hf
      obtain ⟨hk, hx, _⟩ := hf
      exact List.any_eq_true.2 ⟨l[k], List.getElem_mem hk, hx⟩
    rw [this]
    simp
theorem IndexFunc_l1_eq (f : Str → Option Bool) (p : Str → Bool) : ∀ (t a : List Str) (g : Nat), t.length < g → (a ++ t).length ≤ 100000000 → (∀ x ∈ t, f x = some (p x)) →
    slices_IndexFunc_string_l1 (a ++ t) f g (a.length : Int) = some (match t.findIdx? p with | some k => ((a.length + k : Nat) : Int) | none => -1)
  | [], a, g, hg, hl, hf => by
    obtain ⟨g, rfl⟩ := pos_of hg
    simp only [slices_IndexFunc_string_l1, at_e, cF, slices_IndexFunc_string_k1]
    rfl
  | c :: t, a, g, hg, hl, hf => by
    obtain ⟨g, rfl⟩ := pos_of hg
    obtain ⟨h1, h2, h3, h4⟩ := at_c a c t (by omega)
    simp only [slices_IndexFunc_string_l1, h1, h2, cT, bS, h3, hf c (by simp)]
    rw [List.findIdx?_cons]
    cases hp : p c with
    | true => simp
    | false =>
      rw [cF, h4, IndexFunc_l1_eq f p t (a ++ [c]) g (by simp at hg; omega) (by rw [← h4]; exact hl) (fun x hx => hf x (by simp [hx]))]
      cases t.findIdx? p with
      | none => rfl
      | some k =>
        show some (((a ++ [c]).length + k : Nat) : Int) = some ((a.length + (k + 1) : Nat) : Int)
        rw [List.length_append, List.length_singleton, Nat.add_assoc, Nat.add_comm 1 k]
theorem e_ContainsFunc (l : List Str) (f : Str → Option Bool) (p : Str → Bool) (h : l.length ≤ 100000000) (hf : ∀ x ∈ l, f x = some (p x)) : s_slices_ContainsFunc_string l f = some (l.any p) := by
  unfold s_slices_ContainsFunc_string s_slices_IndexFunc_string
  have := IndexFunc_l1_eq f p l [] FUEL (fuel_gt (by omega)) h hf
  rw [nil_len, List.nil_append] at this
  rw [this]
  simp only [bS]
  cases hf : l.findIdx? p with
  | none =>
    have : l.any p = false := by
      rw [List.findIdx?_eq_none_iff] at hf
      rw [List.any_eq_false]
      intro y hy; simp [hf y hy]
    rw [this]; rfl
  | some k =>
    have : l.any p = true := by
      rw [List.findIdx?_eq_some_iff_getElem] at hf
      obtain ⟨hk, hx, _⟩ := hf
      exact List.any_eq_true.2 ⟨l[k], List.getElem_mem hk, hx⟩
    rw [this]
    simp
theorem r1_Among_l1_eq (x : Str) : ∀ (t a : List Str) (g : Nat), t.length < g → (a ++ t).length ≤ 100000000 → r1_Among_l1 (a ++ t) x g (a.length : Int) = some (t.any (· == x))
  | [], a, g, hg, hl => by
    obtain ⟨g, rfl⟩ := pos_of hg
    simp only [r1_Among_l1, at_e, cF, r1_Among_k1, List.any_nil]
  | c :: t, a, g, hg, hl => by
    obtain ⟨g, rfl⟩ := pos_of hg
    obtain ⟨h1, h2, h3, h4⟩ := at_c a c t (by omega)
    simp only [r1_Among_l1, h1, h2, cT, bS, h3]
    rw [h4, r1_Among_l1_eq x t (a ++ [c]) g (by simp at hg; omega) (by rw [← h4]; exact hl)]
    cases hb : c == x <;> simp [hb]
theorem e_r1_Among (l : List Str) (x : Str) (h : l.length ≤ 100000000) : s_r1_Among l x = some (l.any (· == x)) := by
  have := r1_Among_l1_eq x l [] FUEL (fuel_gt (by omega)) h
  rw [nil_len, List.nil_append] at this
  exact this
end Go.Ka
