/- Plain laws: an attribute. Plain laws: classes. Plain laws: what the reference says of an entry. Plain laws: an entry, by the reference and by the program. -/
import Derived.Test.YtnbmjbpekblhbaaGreatDoorMF
set_option linter.all false
namespace Go.Ka
set_option maxRecDepth 100000

/-- No tables at all: for the words that ask for some. -/
@[reducible] def noTab : Tab where
  T := fun _ _ => none
  H := fun _ => none
  hd := fun _ _ h => by cases h
theorem sort_perm (l : List Str) : (sortL l).Perm l := by letI := noTab; exact sortL_perm l
theorem sort_sorted (l : List Str) : (sortL l).Pairwise (· ≤ ·) := by letI := noTab; exact sortL_sorted l
theorem sort_len (l : List Str) : (sortL l).length = l.length := (sort_perm l).length_eq
/-! Sorted and without doubles: as many as there were, if none was twice. -/
theorem compS_len (l : List Str) : (Lib.compact l).length ≤ l.length ∧ ((Lib.compact l).length < l.length ↔ ∃ j, j < l.length ∧ Lib.keeps l.toArray j = false) := by
  unfold Lib.compact Lib.compactUpTo
  rw [List.length_map]
  have h := List.length_filter_le (Lib.keeps l.toArray) (List.range l.length)
  rw [List.length_range] at h
  refine ⟨h, ?_, ?_⟩
  · intro hl
    apply Classical.byContradiction
    intro hn
    have : (List.range l.length).filter (Lib.keeps l.toArray) = List.range l.length := by
      rw [List.filter_eq_self]
      intro j hj
      cases hk : Lib.keeps l.toArray j
      · exact absurd ⟨j, List.mem_range.1 hj, hk⟩ hn
      · rfl
    rw [this, List.length_range] at hl
    omega
  · rintro ⟨j, hj, hk⟩
    apply Classical.byContradiction
    intro hn
    have e : ((List.range l.length).filter (Lib.keeps l.toArray)).length = (List.range l.length).length := by rw [List.length_range]; omega
    have := List.length_filter_eq_length_iff.1 e j (List.mem_range.2 hj)
    rw [hk] at this
    cases this
theorem compact_sorted {l : List Str} (hs : l.Pairwise (· ≤ ·)) : (Lib.compact l).length < l.length ↔ ¬ l.Nodup := by
  rw [(compS_len l).2]
  constructor
  · rintro ⟨j, hj, hk⟩ hn
    unfold Lib.keeps at hk
    have hk := of_decide_eq_false hk
    have h0 : j ≠ 0 := fun h => hk (.inl h)
    have he : l.toArray[j]! = l.toArray[j - 1]! := by
      apply Classical.byContradiction
      intro h; exact hk (.inr h)
    rw [getElem!_pos l.toArray j (by simpa using hj), getElem!_pos l.toArray (j - 1) (by simp; omega)] at he
    simp only [List.getElem_toArray] at he
    have := (List.getElem_inj (h₀ := hj) (h₁ := by omega) hn).1 he
    omega
  · intro hn
    apply Classical.byContradiction
    intro hno
    apply hn
    have adj : ∀ j, 0 < j → ∀ h : j < l.length, l[j] ≠ l[j - 1] := by
      intro j h0 hj he
      apply hno
      refine ⟨j, hj, ?_⟩
      unfold Lib.keeps
      refine decide_eq_false ?_
      rintro (h | h)
      · omega
      · apply h
        rw [getElem!_pos l.toArray j (by simpa using hj), getElem!_pos l.toArray (j - 1) (by simp; omega)]
        simpa using he
    rw [List.nodup_iff_pairwise_ne, List.pairwise_iff_getElem]
    intro i j hi hj hij he
    have hle : ∀ (a b : Nat) (ha : a < l.length) (hb : b < l.length), a ≤ b → l[a] ≤ l[b] := by
      intro a b ha hb hab
      by_cases e : a = b
      · subst e; exact List.le_refl _
      · exact List.pairwise_iff_getElem.1 hs a b ha hb (by omega)
    have h1 := hle i (j - 1) hi (by omega) (by omega)
    have h2 := hle (j - 1) j (by omega) hj (by omega)
    rw [he] at h1
    exact adj j (by omega) hj (List.le_antisymm h1 h2)
theorem compact_sort (l : List Str) : decide (((Lib.compact (sortL l)).length : Int) < (l.length : Int)) = !decide l.Nodup := by
  have h := compact_sorted (sort_sorted l)
  rw [sort_len, (sort_perm l).nodup_iff] at h
  by_cases hn : l.Nodup
  · rw [decide_eq_true hn, decide_eq_false (fun hc => h.1 (by omega) hn)]; rfl
  · rw [decide_eq_false hn, decide_eq_true (by have := h.2 hn; omega)]; rfl

/-- The norms of all values; none, if one has none. -/
def normsS (t : Str) : List Str → Option (List Str)
  | [] => some []
  | v :: l => match normS t v with
    | none => none
    | some n => (normsS t l).map fun x => n :: x
/-- What is wrong with an attribute behind others, of which one has its type or none has. -/
def attrG (a : T_Attr) (had : Bool) : Int :=
  if ruleS a.Typ = 0 then 17
  else if had = true then 20
  else if a.Vals.length = 0 ∨ 40 < a.Vals.length ∨ (ruleS a.Typ = 2 ∧ 1 < a.Vals.length) then 19
  else match normsS a.Typ a.Vals with
    | none => 21
    | some l => if l.Nodup then 0 else 20
theorem normsS_low (t : Str) : ∀ l : List Str, normsS (lowS t) l = normsS t l
  | [] => rfl
  | v :: l => by unfold normsS; rw [normS_low, normsS_low t l]
theorem normsS_len (t : Str) : ∀ (l m : List Str), normsS t l = some m → m.length = l.length
  | [], m, h => by cases h; rfl
  | v :: l, m, h => by
    unfold normsS at h
    cases hn : normS t v with
    | none => rw [hn] at h; cases h
    | some n =>
      rw [hn] at h
      cases hm : normsS t l with
      | none => rw [hm] at h; cases h
      | some k => rw [hm] at h; cases h; simp [normsS_len t l k hm]
theorem schema_attribute_l1_eq (ty : Str) (w : Str × Bool) (hw : w.1.length ≤ 1000000) : ∀ (t a o : List Str) (g : Nat), t.length < g → (a ++ t).length ≤ 10000 → o.length = a.length →
    schema_attribute_l1 ⟨ty, a ++ t⟩ w g (a.length : Int) o = match normsS w.1 t with | none => some 21 | some m => schema_attribute_k1 ⟨ty, a ++ t⟩ (o ++ m)
  | [], a, o, g, hg, hl, ho => by
    obtain ⟨g, rfl⟩ := pos_of hg
    simp only [schema_attribute_l1, at_e, cF, normsS]
    rw [List.append_nil o]
  | v :: t, a, o, g, hg, hl, ho => by
    obtain ⟨g, rfl⟩ := pos_of hg
    obtain ⟨h1, h2, h3, h4⟩ := at_c a v t (by omega)
    have hl' := hl
    simp only [List.length_append, List.length_cons] at hl
    simp only [schema_attribute_l1, h1, h2, cT, bS, e_match_Norm w.1 v hw, h3]
    unfold normsS
    cases hn : normS w.1 v with
    | none => rfl
    | some n =>
      have app : appO 16 o [n] = some (o ++ [n]) := appO_eq (by simp; omega)
      simp only [Option.getD_some, Option.isSome_some, Bool.not_true, cF, app, bS]
      rw [h4, schema_attribute_l1_eq ty w hw t (a ++ [v]) (o ++ [n]) g (by simp at hg; omega) (by rw [← h4]; exact hl') (by simp [ho])]
      cases normsS w.1 t with
      | none => rfl
      | some m => simp
theorem ruleL_two (v : Str) : (v == k_uidnumber) = decide (ruleL v = 2) := by
  by_cases h : v = k_uidnumber
  · subst h; rfl
  · rw [show (v == k_uidnumber) = false from beq_eq_false_iff_ne.2 h]
    symm
    refine decide_eq_false ?_
    unfold ruleL
    rw [show (v == k_uidnumber) = false from beq_eq_false_iff_ne.2 h, cF]
    cases v == k_member <;> cases v == k_userpassword <;> cases v == k_objectclass <;> cases v == k_cn <;> cases v == k_sn <;> cases v == k_o <;> cases v == k_ou <;> cases v == k_uid <;> cases v == k_mail <;> cases v == k_description <;> decide
theorem e_schema_attribute (a : T_Attr) (l : List Str) (ht : a.Typ.length ≤ 1000000) (hl : l.length ≤ 1000000) (hv : a.Vals.length ≤ 10000) : s_schema_attribute a l = some (attrG a (l.any (· == lowS a.Typ))) := by
  unfold s_schema_attribute attrG
  rw [e_match_Canon a.Typ ht]
  simp only [bS]
  by_cases h0 : ruleS a.Typ = 0
  · rw [if_pos h0, if_pos h0]; rfl
  · rw [if_neg h0, if_neg h0]
    simp only [Bool.not_true, cF, e_Contains l _ (show l.length ≤ 100000000 by omega), bS]
    cases hh : l.any (· == lowS a.Typ) with
    | true => rfl
    | false =>
      have e0 : ((a.Vals.length : Int) == 0) = decide (a.Vals.length = 0) := by
        by_cases h : a.Vals.length = 0
        · rw [decide_eq_true h, h]; rfl
        · rw [decide_eq_false h, beq_eq_false_iff_ne]; omega
      have e1 : decide ((a.Vals.length : Int) > 40) = decide (40 < a.Vals.length) := by
        by_cases h : 40 < a.Vals.length
        · rw [decide_eq_true h, decide_eq_true (by omega)]
        · rw [decide_eq_false h, decide_eq_false (by omega)]
      have e2 : decide ((a.Vals.length : Int) > 1) = decide (1 < a.Vals.length) := by
        by_cases h : 1 < a.Vals.length
        · rw [decide_eq_true h, decide_eq_true (by omega)]
        · rw [decide_eq_false h, decide_eq_false (by omega)]
      rw [cF, if_neg Bool.false_ne_true, e0, e1, e2, ruleL_two]
      simp only [bifAnd, bifOr, bS]
      by_cases hx : a.Vals.length = 0 ∨ 40 < a.Vals.length ∨ (ruleS a.Typ = 2 ∧ 1 < a.Vals.length)
      · rw [if_pos hx]
        have : (decide (a.Vals.length = 0) || (decide (40 < a.Vals.length) || (decide (ruleL (lowS a.Typ) = 2) && decide (1 < a.Vals.length)))) = true := by simpa [ruleS] using hx
        rw [this]; rfl
      · rw [if_neg hx]
        have : (decide (a.Vals.length = 0) || (decide (40 < a.Vals.length) || (decide (ruleL (lowS a.Typ) = 2) && decide (1 < a.Vals.length)))) = false := by
          cases hb : (decide (a.Vals.length = 0) || (decide (40 < a.Vals.length) || (decide (ruleL (lowS a.Typ) = 2) && decide (1 < a.Vals.length)))) with
          | false => rfl
          | true => exact absurd (by simpa [ruleS] using hb) hx
        rw [this, cF]
        have := schema_attribute_l1_eq a.Typ (lowS a.Typ, true) (by simpa using ht) a.Vals [] [] FUEL (fuel_gt (by omega)) (by simpa using hv) rfl
        rw [nil_len, List.nil_append] at this
        rw [show (⟨a.Typ, a.Vals⟩ : T_Attr) = a from rfl] at this
        rw [this, normsS_low]
        cases hn : normsS a.Typ a.Vals with
        | none => rfl
        | some m =>
          have hm := normsS_len _ _ _ hn
          simp only [List.nil_append]
          unfold schema_attribute_k1
          rw [show s_sortS m = some () from okO_eq (by simp; omega), show s_compactS (sortL m) = some (Lib.compact (sortL m)) from okO_eq (by rw [sort_len]; simp; omega)]
          simp only [bS]
          rw [← hm, compact_sort]
          by_cases hd : m.Nodup
          · rw [decide_eq_true hd, if_pos hd]; rfl
          · rw [decide_eq_false hd, if_neg hd]; rfl
end Go.Ka
namespace Go.Ka
set_option maxRecDepth 100000

def classL : List T_Class := [⟨k_top, [], false, [k_objectclass], []⟩, ⟨k_organization, k_top, true, [k_o], [k_description]⟩, ⟨k_organizationalunit, k_top, true, [k_ou], [k_description]⟩, ⟨k_person, k_top, true, [k_cn, k_sn], [k_description, k_userpassword]⟩, ⟨k_inetorgperson, k_person, true, [], [k_uid, k_mail]⟩, ⟨k_posix, k_top, false, [k_uid, k_uidnumber], []⟩, ⟨k_groupofnames, k_top, true, [k_cn, k_member], [k_description]⟩]
def findC (p : Str) : Option T_Class := classL.find? fun c => c.Name == lowS p
def noC : T_Class := ⟨[], [], false, [], []⟩
theorem e_schema_classes : s_schema_classes = some classL := by kernel_rfl
theorem e_r1_Classes : s_r1_Classes = some classL := rfl
theorem find_idx {α : Type} (p : α → Bool) : ∀ (l : List α), (match l.findIdx? p with | some k => l[k]? | none => none) = l.find? p
  | [] => rfl
  | x :: l => by
    rw [List.findIdx?_cons, List.find?_cons]
    cases hp : p x with
    | true => rfl
    | false =>
      have := find_idx p l
      cases hf : l.findIdx? p with
      | none => rw [hf] at this; simpa using this
      | some k => rw [hf] at this; simpa using this
theorem IndexFuncC_l1_eq (f : T_Class → Option Bool) (p : T_Class → Bool) : ∀ (t a : List T_Class) (g : Nat), t.length < g → (a ++ t).length ≤ 100000000 → (∀ x ∈ t, f x = some (p x)) →
    slices_IndexFunc_Class_l1 (a ++ t) f g (a.length : Int) = some (match t.findIdx? p with | some k => ((a.length + k : Nat) : Int) | none => -1)
  | [], a, g, hg, hl, hf => by
    obtain ⟨g, rfl⟩ := pos_of hg
    simp only [slices_IndexFunc_Class_l1, at_e, cF, slices_IndexFunc_Class_k1]
    rfl
  | c :: t, a, g, hg, hl, hf => by
    obtain ⟨g, rfl⟩ := pos_of hg
    obtain ⟨h1, h2, h3, h4⟩ := at_c a c t (by omega)
    simp only [slices_IndexFunc_Class_l1, h1, h2, cT, bS, h3, hf c (by simp)]
    rw [List.findIdx?_cons]
    cases hp : p c with
    | true => simp
    | false =>
      rw [cF, h4, IndexFuncC_l1_eq f p t (a ++ [c]) g (by simp at hg; omega) (by rw [← h4]; exact hl) (fun x hx => hf x (by simp [hx]))]
      cases t.findIdx? p with
      | none => rfl
      | some k =>
        show some (((a ++ [c]).length + k : Nat) : Int) = some ((a.length + (k + 1) : Nat) : Int)
        rw [List.length_append, List.length_singleton, Nat.add_assoc, Nat.add_comm 1 k]
/-- What the seven classes have in common. -/
theorem class_small : (classL.all fun c => decide (c.Must.length ≤ 10) && decide (c.May.length ≤ 10) && (c.Must.all fun m => lowS m == m) && decide (c.Sup.length ≤ 30)) = true := by decide +kernel
theorem class_at {c : T_Class} (h : c ∈ classL) : c.Must.length ≤ 10 ∧ c.May.length ≤ 10 ∧ (∀ m ∈ c.Must, lowS m = m) ∧ c.Sup.length ≤ 30 := by
  have := List.all_eq_true.1 class_small c h
  simp only [Bool.and_eq_true, decide_eq_true_eq, List.all_eq_true, beq_iff_eq] at this
  exact ⟨this.1.1.1, this.1.1.2, this.1.2, this.2⟩
theorem findC_mem {p : Str} {c : T_Class} (h : findC p = some c) : c ∈ classL := List.mem_of_find?_eq_some h
theorem e_schema_Find (p : Str) (h : p.length ≤ 1000000) : s_schema_Find p = some (match findC p with | some c => (c, true) | none => (noC, false)) := by
  unfold s_schema_Find s_slices_IndexFunc_Class
  rw [e_schema_classes]
  simp only [bS]
  have := IndexFuncC_l1_eq (fun x => s_schema_Find_1 x p) (fun c => c.Name == lowS p) classL [] FUEL (fuel_gt (by decide)) (by decide) (fun x _ => by
    unfold s_schema_Find_1; rw [e_schema_lowered p (by omega)]; rfl)
  rw [nil_len, List.nil_append] at this
  rw [this]
  simp only [bS]
  have hi := find_idx (fun c : T_Class => c.Name == lowS p) classL
  unfold findC
  rw [← hi]
  cases hf : classL.findIdx? (fun c : T_Class => c.Name == lowS p) with
  | none => rfl
  | some k =>
    rw [hf] at hi
    have hk : k < classL.length := (List.findIdx?_eq_some_iff_getElem.1 hf).1
    simp only [List.length_nil, Nat.zero_add]
    rw [decide_eq_false (show ¬ ((k : Int) < 0) by omega), cF, lgetO_nat, List.getElem?_eq_getElem hk]
    have hc := class_at (List.getElem_mem hk)
    simp only [bS]
    rw [show s_cloneS classL[k].Must = some classL[k].Must from okO_eq (by simp; omega), show s_cloneS classL[k].May = some classL[k].May from okO_eq (by simp; omega)]
    rfl
theorem r1_FindClass_l1_eq (p : Str) (h : p.length ≤ 1000000) : ∀ (t a : List T_Class) (g : Nat), t.length < g → (a ++ t).length ≤ 100000000 →
    r1_FindClass_l1 p (a ++ t) g (a.length : Int) = some (match t.find? fun c => c.Name == lowS p with | some c => ⟨c, true⟩ | none => ⟨noC, false⟩)
  | [], a, g, hg, hl => by
    obtain ⟨g, rfl⟩ := pos_of hg
    simp only [r1_FindClass_l1, at_e, cF, r1_FindClass_k1]
    rfl
  | c :: t, a, g, hg, hl => by
    obtain ⟨g, rfl⟩ := pos_of hg
    obtain ⟨h1, h2, h3, h4⟩ := at_c a c t (by omega)
    simp only [r1_FindClass_l1, h1, h2, cT, bS, h3, e_r1_Lower p (show p.length ≤ 1000000000 by omega)]
    rw [List.find?_cons]
    cases hp : c.Name == lowS p with
    | true => rfl
    | false => rw [cF, h4, r1_FindClass_l1_eq p h t (a ++ [c]) g (by simp at hg; omega) (by rw [← h4]; exact hl)]
theorem e_r1_FindClass (p : Str) (h : p.length ≤ 1000000) : s_r1_FindClass p = some (match findC p with | some c => ⟨c, true⟩ | none => ⟨noC, false⟩) := by
  unfold s_r1_FindClass
  rw [e_r1_Classes]
  simp only [bS]
  have := r1_FindClass_l1_eq p h classL [] FUEL (fuel_gt (by decide)) (by decide)
  rw [nil_len, List.nil_append] at this
  exact this

/-- A class and those above it. -/
def upC : Nat → T_Class → List T_Class
  | 0, c => [c]
  | n + 1, c => c :: (match findC c.Sup with | some d => upC n d | none => [])
def upEnds : Nat → T_Class → Bool
  | 0, _ => false
  | n + 1, c => match findC c.Sup with | some d => upEnds n d | none => true
def mustC (c : T_Class) : List Str := (upC 4 c).flatMap (·.Must)
def mayC (c : T_Class) : List Str := (upC 4 c).flatMap (·.May)
theorem class_ends : (classL.all fun c => upEnds 4 c && decide ((upC 4 c).length ≤ 5)) = true := by decide +kernel
theorem class_cases {P : T_Class → Prop} (h0 : P ⟨k_top, [], false, [k_objectclass], []⟩) (h1 : P ⟨k_organization, k_top, true, [k_o], [k_description]⟩) (h2 : P ⟨k_organizationalunit, k_top, true, [k_ou], [k_description]⟩) (h3 : P ⟨k_person, k_top, true, [k_cn, k_sn], [k_description, k_userpassword]⟩)
    (h4 : P ⟨k_inetorgperson, k_person, true, [], [k_uid, k_mail]⟩) (h5 : P ⟨k_posix, k_top, false, [k_uid, k_uidnumber], []⟩) (h6 : P ⟨k_groupofnames, k_top, true, [k_cn, k_member], [k_description]⟩) {c : T_Class} (h : c ∈ classL) : P c := by
  unfold classL at h
  simp only [List.mem_cons, List.not_mem_nil, or_false] at h
  rcases h with rfl | rfl | rfl | rfl | rfl | rfl | rfl <;> assumption
theorem e_schema_above {c : T_Class} (h : c ∈ classL) : s_schema_above c = some (upC 4 c) :=
  class_cases (P := fun c => s_schema_above c = some (upC 4 c)) (by kernel_rfl) (by kernel_rfl) (by kernel_rfl) (by kernel_rfl) (by kernel_rfl) (by kernel_rfl) (by kernel_rfl) h
theorem upC_mem : ∀ (n : Nat) (c : T_Class), c ∈ classL → ∀ d ∈ upC n c, d ∈ classL
  | 0, c, h, d, hd => by rw [List.mem_singleton.1 hd]; exact h
  | n + 1, c, h, d, hd => by
    rcases List.mem_cons.1 hd with rfl | hd
    · exact h
    · cases hf : findC c.Sup with
      | none => rw [hf] at hd; cases hd
      | some e => rw [hf] at hd; exact upC_mem n e (findC_mem hf) d hd
theorem flatC_len (f : T_Class → List Str) : ∀ (t : List T_Class), (∀ c ∈ t, (f c).length ≤ 10) → (t.flatMap f).length ≤ 10 * t.length
  | [], h => by simp
  | c :: t, h => by
    have h1 := h c (by simp)
    have h2 := flatC_len f t fun d hd => h d (by simp [hd])
    simp only [List.flatMap_cons, List.length_append, List.length_cons]
    omega
theorem upC_len {c : T_Class} (h : c ∈ classL) : (upC 4 c).length ≤ 5 ∧ upEnds 4 c = true := by
  have := List.all_eq_true.1 class_ends c h
  rw [Bool.and_eq_true] at this
  exact ⟨of_decide_eq_true this.2, this.1⟩
theorem mustC_len {c : T_Class} (h : c ∈ classL) : (mustC c).length ≤ 50 ∧ (mayC c).length ≤ 50 ∧ ∀ m ∈ mustC c, lowS m = m := by
  have hm := upC_mem 4 c h
  have hl := (upC_len h).1
  have h1 := flatC_len (·.Must) (upC 4 c) fun d hd => (class_at (hm d hd)).1
  have h2 := flatC_len (·.May) (upC 4 c) fun d hd => (class_at (hm d hd)).2.1
  refine ⟨by unfold mustC; omega, by unfold mayC; omega, fun m hmm => ?_⟩
  obtain ⟨d, hd, hd'⟩ := List.mem_flatMap.1 hmm
  exact (class_at (hm d hd)).2.2.1 m hd'
/-- The classes of names: is one structural, what they must have, what they may have. -/
def clsG : List Str → Bool → List Str → List Str → Option (Bool × List Str × List Str)
  | [], st, mu, ma => some (st, mu, ma)
  | s :: l, st, mu, ma => match findC (foldS s) with
    | none => none
    | some c => clsG l (st || c.Structural) (mu ++ mustC c) (ma ++ mayC c)
def classedG (types names : List Str) : Bool := match clsG names false [] [] with
  | none => false
  | some x => x.1 && (x.2.1.all fun m => types.any (· == m)) && types.all fun t => x.2.1.any (· == t) || x.2.2.any (· == t)
theorem schema_classed_l2_eq (i : Int) (K : Bool → Int → List Str → List Str → Option Bool) (st : Bool) : ∀ (t a : List T_Class) (mu ma : List Str) (g : Nat), t.length < g → (a ++ t).length ≤ 1000 → (∀ c ∈ t, c ∈ classL) → mu.length + 10 * t.length ≤ 1000000 → ma.length + 10 * t.length ≤ 1000000 →
    schema_classed_l2 i K st (a ++ t) g (a.length : Int) mu ma = schema_classed_k3 i K st (mu ++ t.flatMap (·.Must)) (ma ++ t.flatMap (·.May))
  | [], a, mu, ma, g, hg, hl, hc, h1, h2 => by
    obtain ⟨g, rfl⟩ := pos_of hg
    simp only [schema_classed_l2, at_e, cF]
    simp
  | c :: t, a, mu, ma, g, hg, hl, hc, hmu, hma => by
    obtain ⟨g, rfl⟩ := pos_of hg
    obtain ⟨h1, h2, h3, h4⟩ := at_c a c t (by omega)
    have hx := class_at (hc c (by simp))
    simp only [List.length_cons] at hmu hma
    have a1 : appO 16 mu c.Must = some (mu ++ c.Must) := appO_eq (by omega)
    have a2 : appO 16 ma c.May = some (ma ++ c.May) := appO_eq (by omega)
    simp only [schema_classed_l2, h1, h2, cT, bS, a1, a2, h3]
    rw [h4, schema_classed_l2_eq i K st t (a ++ [c]) (mu ++ c.Must) (ma ++ c.May) g (by simp at hg; omega) (by rw [← h4]; exact hl) (fun d hd => hc d (by simp [hd])) (by simp; omega) (by simp; omega)]
    simp
theorem e_classed_k1 (types mu ma : List Str) (st : Bool) (ht : types.length ≤ 1000000) (hmu : mu.length ≤ 1000000) (hma : ma.length ≤ 1000000) :
    schema_classed_k1 types st mu ma = some (st && (mu.all fun m => types.any (· == m)) && types.all fun t => mu.any (· == t) || ma.any (· == t)) := by
  unfold schema_classed_k1
  rw [e_ContainsFunc mu _ (fun m => !types.any (· == m)) (by omega) (fun x _ => by unfold s_schema_classed_1; rw [e_Contains types x (by omega)]; rfl)]
  simp only [bS]
  rw [e_ContainsFunc types _ (fun t => !(mu.any (· == t) || ma.any (· == t))) (by omega) (fun x _ => by
    unfold s_schema_classed_2
    rw [e_Contains mu x (by omega), e_Contains ma x (by omega)]
    simp only [bS]
    cases mu.any (· == x) <;> rfl)]
  simp only [bS]
  have e : ∀ (l : List Str) (p : Str → Bool), (!(l.any fun x => !p x)) = l.all p := fun l p => by rw [List.not_any_eq_all_not]; simp
  rw [← e mu, ← e types]
  cases st <;> cases (mu.any fun x => !types.any (· == x)) <;> rfl
theorem schema_classed_l1_eq (types : List Str) (ht : types.length ≤ 1000000) : ∀ (t a : List Str) (st : Bool) (mu ma : List Str) (g : Nat), t.length < g → (a ++ t).length ≤ 1000 → (∀ s ∈ t, s.length ≤ 100000) → mu.length ≤ 50 * a.length → ma.length ≤ 50 * a.length →
    schema_classed_l1 types (a ++ t) g st (a.length : Int) mu ma = match clsG t st mu ma with | none => some false | some x => schema_classed_k1 types x.1 x.2.1 x.2.2
  | [], a, st, mu, ma, g, hg, hl, hs, h1, h2 => by
    obtain ⟨g, rfl⟩ := pos_of hg
    simp only [schema_classed_l1, at_e, cF]
    rfl
  | s :: t, a, st, mu, ma, g, hg, hl, hs, hmu, hma => by
    obtain ⟨g, rfl⟩ := pos_of hg
    obtain ⟨h1, h2, h3, h4⟩ := at_c a s t (by omega)
    have hs0 := hs s (by simp)
    have hf := foldS_len s
    have hl' := hl
    simp only [List.length_append, List.length_cons] at hl
    simp only [schema_classed_l1, h1, h2, cT, bS, e_dn_Fold s (show s.length ≤ 100000000 by omega), e_schema_Find (foldS s) (by omega), bifOr]
    unfold clsG
    cases hc : findC (foldS s) with
    | none => rfl
    | some c =>
      have hcm := findC_mem hc
      have hcl := mustC_len hcm
      have hul := (upC_len hcm).1
      simp only [Bool.not_true, cF, e_schema_above hcm, bS]
      have := schema_classed_l2_eq (a.length : Int) (schema_classed_l1 types (a ++ s :: t) g) (st || c.Structural) (upC 4 c) [] mu ma FUEL (fuel_gt (by omega)) (by simp; omega) (upC_mem 4 c hcm) (by omega) (by omega)
      rw [nil_len, List.nil_append] at this
      rw [this]
      unfold schema_classed_k3 schema_classed_k2
      rw [h3]
      simp only [bS]
      rw [h4]
      exact schema_classed_l1_eq types ht t (a ++ [s]) (st || c.Structural) (mu ++ mustC c) (ma ++ mayC c) g (by simp at hg; omega) (by rw [← h4]; exact hl') (fun x hx => hs x (by simp [hx])) (by simp; omega) (by simp; omega)
theorem clsG_len : ∀ (l : List Str) (st : Bool) (mu ma : List Str) (x : Bool × List Str × List Str), clsG l st mu ma = some x → x.2.1.length ≤ mu.length + 50 * l.length ∧ x.2.2.length ≤ ma.length + 50 * l.length ∧ ((∀ m ∈ mu, lowS m = m) → ∀ m ∈ x.2.1, lowS m = m)
  | [], st, mu, ma, x, h => by cases h; simp
  | s :: l, st, mu, ma, x, h => by
    unfold clsG at h
    cases hc : findC (foldS s) with
    | none => rw [hc] at h; cases h
    | some c =>
      rw [hc] at h
      have hcl := mustC_len (findC_mem hc)
      have := clsG_len l _ _ _ x h
      simp only [List.length_append, List.length_cons] at this ⊢
      refine ⟨by omega, by omega, fun hm => this.2.2 fun m hmm => ?_⟩
      rcases List.mem_append.1 hmm with hmm | hmm
      · exact hm m hmm
      · exact hcl.2.2 m hmm
theorem e_schema_classed (types names : List Str) (ht : types.length ≤ 1000000) (hn : names.length ≤ 1000) (hs : ∀ s ∈ names, s.length ≤ 100000) : s_schema_classed types names = some (classedG types names) := by
  unfold s_schema_classed classedG
  have := schema_classed_l1_eq types ht names [] false [] [] FUEL (fuel_gt (by omega)) (by simpa using hn) hs (by simp) (by simp)
  rw [nil_len, List.nil_append] at this
  rw [this]
  cases hc : clsG names false [] [] with
  | none => rfl
  | some x =>
    have := clsG_len names false [] [] x hc
    simp only [List.length_nil, Nat.zero_add] at this
    exact e_classed_k1 types x.2.1 x.2.2 x.1 ht (by omega) (by omega)
end Go.Ka
namespace Go.Ka
set_option maxRecDepth 100000

/-- The values of a type that is written small. -/
def valsG (l : List T_Attr) (t : Str) : List Str := match l.find? fun a => lowS a.Typ == t with
  | some a => a.Vals
  | none => []
/-- Entries of a size that a statement speaks of. -/
structure SmallA (a : T_Attr) : Prop where
  typ : a.Typ.length ≤ 10000
  vals : a.Vals.length ≤ 1000
  val : ∀ v ∈ a.Vals, v.length ≤ 10000
structure SmallE (e : T_Entry) : Prop where
  dn : e.Dn.length ≤ 1000000
  attrs : e.Attrs.length ≤ 1000
  attr : ∀ a ∈ e.Attrs, SmallA a
theorem r1_attr_l1_eq (e : T_Entry) (p : Str) (hp : p.length ≤ 1000000) : ∀ (t a : List T_Attr) (g : Nat), e.Attrs = a ++ t → t.length < g → (a ++ t).length ≤ 100000 → (∀ x ∈ t, SmallA x) →
    r1_attr_l1 e p g (a.length : Int) = some (match t.findIdx? (fun x => lowS x.Typ == lowS p) with | some k => ((a.length + k : Nat) : Int) | none => -1)
  | [], a, g, he, hg, hl, hs => by
    obtain ⟨g, rfl⟩ := pos_of hg
    simp only [r1_attr_l1, he, at_e, cF, r1_attr_k1]
    rfl
  | c :: t, a, g, he, hg, hl, hs => by
    obtain ⟨g, rfl⟩ := pos_of hg
    obtain ⟨h1, h2, h3, h4⟩ := at_c a c t (by omega)
    have hc := (hs c (by simp)).typ
    simp only [r1_attr_l1, he, h1, h2, cT, bS, h3, e_r1_Lower p (show p.length ≤ 1000000000 by omega), e_r1_Lower c.Typ (show c.Typ.length ≤ 1000000000 by omega)]
    rw [List.findIdx?_cons]
    cases hp' : lowS c.Typ == lowS p with
    | true => simp
    | false =>
      rw [cF, r1_attr_l1_eq e p hp t (a ++ [c]) g (by rw [he, h4]) (by simp at hg; omega) (by rw [← h4]; exact hl) (fun x hx => hs x (by simp [hx]))]
      cases t.findIdx? (fun x => lowS x.Typ == lowS p) with
      | none => rfl
      | some k =>
        show some (((a ++ [c]).length + k : Nat) : Int) = some ((a.length + (k + 1) : Nat) : Int)
        rw [List.length_append, List.length_singleton, Nat.add_assoc, Nat.add_comm 1 k]
def attrI (l : List T_Attr) (t : Str) : Int := match l.findIdx? (fun x => lowS x.Typ == t) with | some k => (k : Int) | none => -1
theorem e_r1_attr {e : T_Entry} (he : SmallE e) (p : Str) (hp : p.length ≤ 1000000) : s_r1_attr e p = some (attrI e.Attrs (lowS p)) := by
  unfold s_r1_attr attrI
  have := r1_attr_l1_eq e p hp e.Attrs [] FUEL rfl (fuel_gt (by have := he.attrs; omega)) (by have := he.attrs; simp; omega) he.attr
  rw [nil_len] at this
  rw [this]
  cases e.Attrs.findIdx? (fun x => lowS x.Typ == lowS p) <;> simp
theorem attrI_neg (l : List T_Attr) (t : Str) : decide (attrI l t < 0) = !(l.any fun x => lowS x.Typ == t) := by
  unfold attrI
  cases hf : l.findIdx? (fun x => lowS x.Typ == t) with
  | none =>
    rw [List.findIdx?_eq_none_iff] at hf
    have : (l.any fun x => lowS x.Typ == t) = false := by rw [List.any_eq_false]; intro y hy; simp [hf y hy]
    rw [this]; rfl
  | some k =>
    obtain ⟨hk, hx, _⟩ := List.findIdx?_eq_some_iff_getElem.1 hf
    have : (l.any fun x => lowS x.Typ == t) = true := List.any_eq_true.2 ⟨l[k], List.getElem_mem hk, hx⟩
    rw [this]
    exact decide_eq_false (show ¬ ((k : Int) < 0) by omega)
theorem e_r1_Vals {e : T_Entry} (he : SmallE e) (p : Str) (hp : p.length ≤ 1000000) : s_r1_Vals e p = some (valsG e.Attrs (lowS p)) := by
  unfold s_r1_Vals
  rw [e_r1_attr he p hp]
  simp only [bS]
  have hi := find_idx (fun a : T_Attr => lowS a.Typ == lowS p) e.Attrs
  unfold attrI valsG
  rw [← hi]
  cases hf : e.Attrs.findIdx? (fun x => lowS x.Typ == lowS p) with
  | none => rfl
  | some k =>
    have hk := (List.findIdx?_eq_some_iff_getElem.1 hf).1
    simp only
    rw [decide_eq_false (show ¬ ((k : Int) < 0) by omega), cF, lgetO_nat, List.getElem?_eq_getElem hk]
    rfl

/-! The attributes. -/
/-- Is one of q twice, or in p? -/
def dupG : List Str → List Str → Bool
  | _, [] => false
  | p, x :: q => p.any (· == x) || dupG (p ++ [x]) q
theorem dupG_nodup : ∀ (q p : List Str), p.Nodup → (dupG p q = false ↔ (p ++ q).Nodup)
  | [], p, hp => by simp [dupG, hp]
  | x :: q, p, hp => by
    unfold dupG
    rw [Bool.or_eq_false_iff]
    have e : p ++ x :: q = (p ++ [x]) ++ q := by simp
    by_cases hx : x ∈ p
    · have h1 : p.any (· == x) = true := List.any_eq_true.2 ⟨x, hx, by simp⟩
      rw [h1]
      constructor
      · intro h; cases h.1
      · intro h
        rw [List.nodup_append] at h
        exact absurd rfl (h.2.2 x hx x (by simp))
    · have h1 : p.any (· == x) = false := by
        rw [List.any_eq_false]; intro y hy h
        exact hx (by rw [← eq_of_beq h]; exact hy)
      have hn : (p ++ [x]).Nodup := by
        rw [List.nodup_append]
        exact ⟨hp, by simp, fun a ha b hb h => hx (by rw [← List.mem_singleton.1 hb, ← h]; exact ha)⟩
      rw [h1, e, dupG_nodup q (p ++ [x]) hn]
      simp
theorem normsS_at (t : Str) : ∀ (l m : List Str), normsS t l = some m → ∀ (j : Nat) (v : Str), l[j]? = some v → ∃ n, m[j]? = some n ∧ normS t v = some n
  | [], m, h, j, v, hv => by simp at hv
  | x :: l, m, h, j, v, hv => by
    unfold normsS at h
    cases hn : normS t x with
    | none => rw [hn] at h; cases h
    | some n =>
      rw [hn] at h
      cases hm : normsS t l with
      | none => rw [hm] at h; cases h
      | some k =>
        rw [hm] at h
        cases h
        cases j with
        | zero => simp at hv; subst hv; exact ⟨n, rfl, hn⟩
        | succ j => simpa using normsS_at t l k hm j v (by simpa using hv)
theorem r1_attrs_l3_eq (a : T_Attr) (ns : List Str) (ha : a.Typ.length ≤ 1000000) (hns : normsS a.Typ a.Vals = some ns) (hl : a.Vals.length ≤ 100000) (k : Nat) (nk : Str) (hk : ns[k]? = some nk) (K : Int → Option Int) :
    ∀ (d m g : Nat), m + d = k → d < g → r1_attrs_l3 a (k : Int) K g (m : Int) = bif ((ns.take k).drop m).any (· == nk) then some 20 else r1_attrs_k6 (k : Int) K := by
  have hlen := normsS_len _ _ _ hns
  have hkl : k < ns.length := (List.getElem?_eq_some_iff.1 hk).1
  have hvk : ∃ v, a.Vals[k]? = some v := ⟨a.Vals[k], List.getElem?_eq_getElem (by omega)⟩
  obtain ⟨vk, hvk⟩ := hvk
  obtain ⟨n', h1, h2⟩ := normsS_at _ _ _ hns k vk hvk
  rw [hk] at h1
  cases h1
  intro d
  induction d with
  | zero =>
    intro m g hm hg
    obtain ⟨g, rfl⟩ := pos_of hg
    simp only [r1_attrs_l3]
    rw [decide_eq_false (show ¬ ((m : Int) < (k : Int)) by omega), cF, List.drop_of_length_le (by simp; omega), List.any_nil, cF]
  | succ d ih =>
    intro m g hm hg
    obtain ⟨g, rfl⟩ := pos_of hg
    have hml : m < a.Vals.length := by omega
    have hvm : a.Vals[m]? = some a.Vals[m] := List.getElem?_eq_getElem hml
    obtain ⟨nm, h3, h4⟩ := normsS_at _ _ _ hns m _ hvm
    simp only [r1_attrs_l3]
    rw [decide_eq_true (show ((m : Int) < (k : Int)) by omega), cT, lgetO_nat, lgetO_nat, hvm, hvk]
    simp only [bS]
    rw [e_r1_SameVal _ _ _ ha]
    simp only [bS]
    have hs : sameS a.Typ a.Vals[m] vk = (nm == nk) := by unfold sameS; rw [h4, h2]; rfl
    have hd : (ns.take k).drop m = nm :: (ns.take k).drop (m + 1) := by
      have hmn : m < ns.length := by omega
      have e : ns[m] = nm := by
        have := List.getElem?_eq_getElem hmn
        rw [h3] at this
        exact (Option.some.inj this).symm
      rw [List.drop_eq_getElem_cons (by simp; omega), List.getElem_take, e]
    rw [hs, hd, List.any_cons]
    cases hb : nm == nk with
    | true => rw [cT, Bool.true_or, cT]
    | false =>
      rw [cF, Bool.false_or, addO_eq (by omega)]
      simp only [bS]
      have := ih (m + 1) g (by omega) (by omega)
      rw [show (((m + 1 : Nat)) : Int) = (m : Int) + 1 by omega] at this
      exact this
theorem r1_attrs_l2_eq (i : Int) (K : Int → Option Int) (j : Int) (hj : addO i 1 = some j) (a : T_Attr) (ns : List Str) (ha : a.Typ.length ≤ 1000000) (hns : normsS a.Typ a.Vals = some ns) (hl : a.Vals.length ≤ 100000) :
    ∀ (q p : List Str) (g : Nat), ns = p ++ q → q.length < g → r1_attrs_l2 i K a g (p.length : Int) = bif dupG p q then some 20 else K j := by
  have hlen := normsS_len _ _ _ hns
  intro q
  induction q with
  | nil =>
    intro p g hp hg
    obtain ⟨g, rfl⟩ := pos_of hg
    simp only [r1_attrs_l2]
    rw [decide_eq_false (show ¬ ((p.length : Int) < (a.Vals.length : Int)) by rw [← hlen, hp]; simp), cF]
    unfold r1_attrs_k4 r1_attrs_k2 dupG
    rw [hj, bS, cF]
  | cons x q ih =>
    intro p g hp hg
    obtain ⟨g, rfl⟩ := pos_of hg
    simp only [r1_attrs_l2]
    rw [decide_eq_true (show ((p.length : Int) < (a.Vals.length : Int)) by rw [← hlen, hp]; simp; omega), cT]
    have h3 := r1_attrs_l3_eq a ns ha hns hl p.length x (by rw [hp]; simp) (r1_attrs_l2 i K a g) p.length 0 FUEL (by omega) (fuel_gt (by have := congrArg List.length hp; simp at this; omega))
    rw [show ((0 : Nat) : Int) = 0 from rfl] at h3
    rw [h3, List.drop_zero, show ns.take p.length = p by rw [hp]; simp]
    unfold dupG
    cases hb : p.any (· == x) with
    | true => rw [cT, Bool.true_or, cT]
    | false =>
      rw [cF, Bool.false_or]
      unfold r1_attrs_k6 r1_attrs_k5
      rw [addO_eq (by have := congrArg List.length hp; simp at this; omega)]
      simp only [bS]
      have := ih (p ++ [x]) g (by rw [hp]; simp) (by simp at hg; omega)
      rw [show (((p ++ [x]).length : Nat) : Int) = (p.length : Int) + 1 by simp] at this
      exact this
theorem r1_attrs_l4_eq (i : Int) (K : Int → Option Int) (ty : Str) (ha : ty.length ≤ 1000000) : ∀ (t a : List Str) (g : Nat), t.length < g → (a ++ t).length ≤ 100000 →
    r1_attrs_l4 i K ⟨ty, a ++ t⟩ g (a.length : Int) = match normsS ty t with | none => some 21 | some _ => r1_attrs_k3 i K ⟨ty, a ++ t⟩
  | [], a, g, hg, hl => by
    obtain ⟨g, rfl⟩ := pos_of hg
    simp only [r1_attrs_l4, at_e, cF]
    rfl
  | v :: t, a, g, hg, hl => by
    obtain ⟨g, rfl⟩ := pos_of hg
    obtain ⟨h1, h2, h3, h4⟩ := at_c a v t (by omega)
    simp only [r1_attrs_l4, h1, h2, cT, bS, e_r1_Norm ty v ha, h3]
    unfold normsS
    cases hn : normS ty v with
    | none => rfl
    | some n =>
      simp only [Option.isSome_some, Bool.not_true, cF]
      rw [h4, r1_attrs_l4_eq i K ty ha t (a ++ [v]) g (by simp at hg; omega) (by rw [← h4]; exact hl)]
      cases normsS ty t <;> rfl
/-- What is wrong with the first attribute with which something is; 0: nothing. -/
def attrsG : List T_Attr → List T_Attr → Int
  | _, [] => 0
  | p, a :: l => if attrG a (p.any fun x => lowS x.Typ == lowS a.Typ) = 0 then attrsG (p ++ [a]) l else attrG a (p.any fun x => lowS x.Typ == lowS a.Typ)
theorem attrI_lt (p : List T_Attr) (a : T_Attr) (t : List T_Attr) : decide (attrI (p ++ a :: t) (lowS a.Typ) < (p.length : Int)) = p.any fun x => lowS x.Typ == lowS a.Typ := by
  unfold attrI
  rw [List.findIdx?_append]
  cases hf : p.findIdx? (fun x => lowS x.Typ == lowS a.Typ) with
  | none =>
    rw [List.findIdx?_eq_none_iff] at hf
    have : (p.any fun x => lowS x.Typ == lowS a.Typ) = false := by rw [List.any_eq_false]; intro y hy; simp [hf y hy]
    rw [this, List.findIdx?_cons]
    simp
  | some k =>
    obtain ⟨hk, hx, _⟩ := List.findIdx?_eq_some_iff_getElem.1 hf
    have : (p.any fun x => lowS x.Typ == lowS a.Typ) = true := List.any_eq_true.2 ⟨p[k], List.getElem_mem hk, hx⟩
    rw [this]
    exact decide_eq_true (by simp; omega)
theorem r1_attrs_l1_eq {e : T_Entry} (he : SmallE e) : ∀ (t p : List T_Attr) (g : Nat), e.Attrs = p ++ t → t.length < g → r1_attrs_l1 e g (p.length : Int) = some (attrsG p t)
  | [], p, g, hp, hg => by
    obtain ⟨g, rfl⟩ := pos_of hg
    simp only [r1_attrs_l1, hp, at_e, cF, r1_attrs_k1, attrsG]
  | a :: t, p, g, hp, hg => by
    obtain ⟨g, rfl⟩ := pos_of hg
    have hl : (p ++ a :: t).length ≤ 1000 := by rw [← hp]; exact he.attrs
    obtain ⟨h1, h2, h3, h4⟩ := at_c p a t (by omega)
    have ha : SmallA a := he.attr a (by rw [hp]; simp)
    have hty := ha.typ
    have hvl := ha.vals
    have ih := r1_attrs_l1_eq he t (p ++ [a]) g (by rw [hp, h4]) (by simp at hg; omega)
    simp only [r1_attrs_l1, hp, h1, h2, cT, bS, e_r1_Rule a.Typ (show a.Typ.length ≤ 1000000 by omega), e_r1_attr he a.Typ (show a.Typ.length ≤ 1000000 by omega)]
    simp only [attrI_lt]
    unfold attrsG
    unfold attrG
    by_cases h0 : ruleS a.Typ = 0
    · rw [h0, if_pos rfl]; rfl
    · rw [show (ruleS a.Typ == 0) = false from beq_eq_false_iff_ne.2 h0, cF, if_neg h0]
      cases hh : p.any (fun x => lowS x.Typ == lowS a.Typ) with
      | true => rfl
      | false =>
        have e0 : ((a.Vals.length : Int) == 0) = decide (a.Vals.length = 0) := by
          by_cases h : a.Vals.length = 0
          · rw [decide_eq_true h, h]; rfl
          · rw [decide_eq_false h, beq_eq_false_iff_ne]; omega
        have e1 : decide ((a.Vals.length : Int) > 40) = decide (40 < a.Vals.length) := by
          by_cases h : 40 < a.Vals.length
          · rw [decide_eq_true h, decide_eq_true (by omega)]
          · rw [decide_eq_false h, decide_eq_false (by omega)]
        have e2 : decide ((a.Vals.length : Int) > 1) = decide (1 < a.Vals.length) := by
          by_cases h : 1 < a.Vals.length
          · rw [decide_eq_true h, decide_eq_true (by omega)]
          · rw [decide_eq_false h, decide_eq_false (by omega)]
        have e3 : (ruleS a.Typ == 2) = decide (ruleS a.Typ = 2) := by
          by_cases h : ruleS a.Typ = 2
          · rw [decide_eq_true h, h]; rfl
          · rw [decide_eq_false h, beq_eq_false_iff_ne]; exact h
        rw [cF, if_neg Bool.false_ne_true, e0, e1, e2, e3]
        simp only [bifAnd, bifOr, bS]
        by_cases hx : a.Vals.length = 0 ∨ 40 < a.Vals.length ∨ (ruleS a.Typ = 2 ∧ 1 < a.Vals.length)
        · rw [if_pos hx]
          have : (decide (a.Vals.length = 0) || (decide (40 < a.Vals.length) || (decide (ruleS a.Typ = 2) && decide (1 < a.Vals.length)))) = true := by simpa using hx
          rw [this]; rfl
        · rw [if_neg hx]
          have : (decide (a.Vals.length = 0) || (decide (40 < a.Vals.length) || (decide (ruleS a.Typ = 2) && decide (1 < a.Vals.length)))) = false := by
            cases hb : (decide (a.Vals.length = 0) || (decide (40 < a.Vals.length) || (decide (ruleS a.Typ = 2) && decide (1 < a.Vals.length)))) with
            | false => rfl
            | true => exact absurd (by simpa using hb) hx
          rw [this, cF]
          have h4' := r1_attrs_l4_eq (p.length : Int) (r1_attrs_l1 e g) a.Typ (by omega) a.Vals [] FUEL (fuel_gt (by omega)) (by simp; omega)
          rw [nil_len, List.nil_append, show (⟨a.Typ, a.Vals⟩ : T_Attr) = a from rfl] at h4'
          rw [h4']
          cases hn : normsS a.Typ a.Vals with
          | none => rfl
          | some ns =>
            have hnl := normsS_len _ _ _ hn
            simp only
            unfold r1_attrs_k3
            have h2' := r1_attrs_l2_eq (p.length : Int) (r1_attrs_l1 e g) _ h3 a ns (by omega) hn (by omega) ns [] FUEL rfl (fuel_gt (by omega))
            rw [nil_len] at h2'
            rw [h2', ih]
            have hd := dupG_nodup ns [] (by simp)
            rw [List.nil_append] at hd
            by_cases hnd : ns.Nodup
            · rw [hd.2 hnd, if_pos hnd]; rfl
            · rw [if_neg hnd]
              cases hdu : dupG [] ns with
              | false => exact absurd (hd.1 hdu) hnd
              | true => rfl
theorem e_r1_attrs {e : T_Entry} (he : SmallE e) : s_r1_attrs e = some (attrsG [] e.Attrs) := by
  have := r1_attrs_l1_eq he e.Attrs [] FUEL rfl (fuel_gt (by have := he.attrs; omega))
  rw [nil_len] at this
  exact this
end Go.Ka
namespace Go.Ka
set_option maxRecDepth 100000

/-! The reference's classes. -/
theorem r1_classes_l4_eq (i : Int) (K : Bool → Int → List Str → List Str → Option Bool) (st : Bool) : ∀ (n : Nat) (c : T_Class) (mu ma : List Str) (g : Nat), c ∈ classL → upEnds n c = true → n + 1 < g → mu.length + 10 * n + 10 ≤ 1000000 → ma.length + 10 * n + 10 ≤ 1000000 →
    r1_classes_l4 i K st g mu ma c.Name c.Sup c.Structural c.Must c.May true = r1_classes_k5 i K st (mu ++ (upC n c).flatMap (·.Must)) (ma ++ (upC n c).flatMap (·.May)) := by
  intro n
  induction n with
  | zero => intro c mu ma g _ h; cases h
  | succ n ih =>
    intro c mu ma g hc he hg hmu hma
    obtain ⟨g, rfl⟩ := pos_of hg
    have hx := class_at hc
    have a1 : appO 16 mu c.Must = some (mu ++ c.Must) := appO_eq (by omega)
    have a2 : appO 16 ma c.May = some (ma ++ c.May) := appO_eq (by omega)
    simp only [r1_classes_l4, cT, a1, a2, bS, e_r1_FindClass c.Sup (show c.Sup.length ≤ 1000000 by omega)]
    unfold upEnds at he
    unfold upC
    cases hf : findC c.Sup with
    | none =>
      obtain ⟨g, rfl⟩ := pos_of (show 0 < g by omega)
      simp only [r1_classes_l4, cF]
      simp
    | some d =>
      rw [hf] at he
      simp only
      rw [ih d (mu ++ c.Must) (ma ++ c.May) g (findC_mem hf) he (by omega) (by simp; omega) (by simp; omega)]
      simp
theorem r1_classes_l1_eq {e : T_Entry} (he : SmallE e) (mu ma : List Str) (st : Bool) (hmu : mu.length ≤ 1000000) (hma : ma.length ≤ 1000000) : ∀ (t p : List T_Attr) (g : Nat), e.Attrs = p ++ t → t.length < g →
    r1_classes_l1 e mu ma st g (p.length : Int) = some ((t.all fun a => mu.any (· == lowS a.Typ) || ma.any (· == lowS a.Typ)) && st)
  | [], p, g, hp, hg => by
    obtain ⟨g, rfl⟩ := pos_of hg
    simp only [r1_classes_l1, hp, at_e, cF, r1_classes_k3]
    simp
  | a :: t, p, g, hp, hg => by
    obtain ⟨g, rfl⟩ := pos_of hg
    have hl : (p ++ a :: t).length ≤ 1000 := by rw [← hp]; exact he.attrs
    obtain ⟨h1, h2, h3, h4⟩ := at_c p a t (by omega)
    have ha := (he.attr a (by rw [hp]; simp)).typ
    have ih := r1_classes_l1_eq he mu ma st hmu hma t (p ++ [a]) g (by rw [hp, h4]) (by simp at hg; omega)
    simp only [r1_classes_l1, hp, h1, h2, cT, bS, e_r1_Lower a.Typ (show a.Typ.length ≤ 1000000000 by omega), e_r1_Among mu _ (show mu.length ≤ 100000000 by omega), e_r1_Among ma _ (show ma.length ≤ 100000000 by omega), h3, ih]
    rw [List.all_cons]
    cases mu.any (· == lowS a.Typ) <;> cases ma.any (· == lowS a.Typ) <;> simp
theorem r1_classes_l2_eq {e : T_Entry} (he : SmallE e) (ma : List Str) (st : Bool) (mu : List Str) (hmu : mu.length ≤ 1000000) (hma : ma.length ≤ 1000000) (hlow : ∀ m ∈ mu, lowS m = m) (hlen : ∀ m ∈ mu, m.length ≤ 1000000) : ∀ (t p : List Str) (g : Nat), mu = p ++ t → t.length < g →
    r1_classes_l2 e mu ma st g (p.length : Int) = some ((t.all fun m => e.Attrs.any fun a => lowS a.Typ == m) && (e.Attrs.all fun a => mu.any (· == lowS a.Typ) || ma.any (· == lowS a.Typ)) && st)
  | [], p, g, hp, hg => by
    obtain ⟨g, rfl⟩ := pos_of hg
    simp only [r1_classes_l2]
    rw [decide_eq_false (show ¬ ((p.length : Int) < (mu.length : Int)) by rw [hp]; simp), cF]
    unfold r1_classes_k2
    have := r1_classes_l1_eq he mu ma st hmu hma e.Attrs [] FUEL rfl (fuel_gt (by have := he.attrs; omega))
    rw [nil_len] at this
    rw [this]
    simp
  | m :: t, p, g, hp, hg => by
    obtain ⟨g, rfl⟩ := pos_of hg
    have hl : (p ++ m :: t).length ≤ 1000000 := by rw [← hp]; exact hmu
    obtain ⟨h1, h2, h3, h4⟩ := at_c p m t (by omega)
    have hm : m ∈ mu := by rw [hp]; simp
    have ih := r1_classes_l2_eq he ma st mu hmu hma hlow hlen t (p ++ [m]) g (by rw [hp, h4]) (by simp at hg; omega)
    rw [← hp] at h1 h2
    simp only [r1_classes_l2, h1, h2, cT, bS, e_r1_attr he m (hlen m hm), h3, ih, hlow m hm, attrI_neg]
    rw [List.all_cons]
    cases e.Attrs.any (fun a => lowS a.Typ == m) <;> simp
def classedR (e : T_Entry) : Bool := match clsG (valsG e.Attrs k_objectclass) false [] [] with
  | none => false
  | some x => (x.2.1.all fun m => e.Attrs.any fun a => lowS a.Typ == m) && (e.Attrs.all fun a => x.2.1.any (· == lowS a.Typ) || x.2.2.any (· == lowS a.Typ)) && x.1
theorem class_must_len : (classL.all fun c => (upC 4 c).all fun d => d.Must.all fun m => decide (m.length ≤ 30)) = true := by decide +kernel
theorem mustC_short {c : T_Class} (h : c ∈ classL) : ∀ m ∈ mustC c, m.length ≤ 1000000 := by
  intro m hm
  obtain ⟨d, hd, hd'⟩ := List.mem_flatMap.1 hm
  have := of_decide_eq_true (List.all_eq_true.1 (List.all_eq_true.1 (List.all_eq_true.1 class_must_len c h) d hd) m hd')
  omega
theorem clsG_short : ∀ (l : List Str) (st : Bool) (mu ma : List Str) (x : Bool × List Str × List Str), clsG l st mu ma = some x → (∀ m ∈ mu, m.length ≤ 1000000) → ∀ m ∈ x.2.1, m.length ≤ 1000000
  | [], st, mu, ma, x, h, hm => by cases h; exact hm
  | s :: l, st, mu, ma, x, h, hm => by
    unfold clsG at h
    cases hc : findC (foldS s) with
    | none => rw [hc] at h; cases h
    | some c =>
      rw [hc] at h
      refine clsG_short l _ _ _ x h fun m hmm => ?_
      rcases List.mem_append.1 hmm with hmm | hmm
      · exact hm m hmm
      · exact mustC_short (findC_mem hc) m hmm
theorem r1_classes_l3_eq {e : T_Entry} (he : SmallE e) : ∀ (t a : List Str) (st : Bool) (mu ma : List Str) (g : Nat), t.length < g → (a ++ t).length ≤ 1000 → (∀ s ∈ t, s.length ≤ 100000) → mu.length ≤ 50 * a.length → ma.length ≤ 50 * a.length →
    r1_classes_l3 e (a ++ t) g st (a.length : Int) mu ma = match clsG t st mu ma with | none => some false | some x => r1_classes_k1 e x.1 x.2.1 x.2.2
  | [], a, st, mu, ma, g, hg, hl, hs, h1, h2 => by
    obtain ⟨g, rfl⟩ := pos_of hg
    simp only [r1_classes_l3, at_e, cF]
    rfl
  | s :: t, a, st, mu, ma, g, hg, hl, hs, hmu, hma => by
    obtain ⟨g, rfl⟩ := pos_of hg
    obtain ⟨h1, h2, h3, h4⟩ := at_c a s t (by omega)
    have hs0 := hs s (by simp)
    have hf := foldS_len s
    have hl' := hl
    simp only [List.length_append, List.length_cons] at hl
    simp only [r1_classes_l3, h1, h2, cT, bS, e_r1_Fold s (show s.length ≤ 100000000 by omega), e_r1_FindClass (foldS s) (show (foldS s).length ≤ 1000000 by omega)]
    unfold clsG
    cases hc : findC (foldS s) with
    | none => rfl
    | some c =>
      have hcm := findC_mem hc
      have hcl := mustC_len hcm
      simp only [Bool.not_true, cF, bifOr, bS]
      have := r1_classes_l4_eq (a.length : Int) (r1_classes_l3 e (a ++ s :: t) g) (st || c.Structural) 4 c mu ma FUEL hcm (upC_len hcm).2 (fuel_gt (by omega)) (by omega) (by omega)
      rw [this]
      unfold r1_classes_k5 r1_classes_k4
      rw [h3]
      simp only [bS]
      rw [h4]
      exact r1_classes_l3_eq he t (a ++ [s]) (st || c.Structural) (mu ++ mustC c) (ma ++ mayC c) g (by simp at hg; omega) (by rw [← h4]; exact hl') (fun x hx => hs x (by simp [hx])) (by simp; omega) (by simp; omega)
theorem valsG_small {e : T_Entry} (he : SmallE e) (t : Str) : (valsG e.Attrs t).length ≤ 1000 ∧ ∀ v ∈ valsG e.Attrs t, v.length ≤ 10000 := by
  unfold valsG
  cases hf : e.Attrs.find? (fun a => lowS a.Typ == t) with
  | none => simp
  | some a =>
    have := he.attr a (List.mem_of_find?_eq_some hf)
    exact ⟨this.vals, this.val⟩
theorem e_r1_classes {e : T_Entry} (he : SmallE e) : s_r1_classes e = some (classedR e) := by
  unfold s_r1_classes classedR
  have hv := valsG_small he k_objectclass
  rw [e_r1_Vals he k_objectclass (by decide), show lowS k_objectclass = k_objectclass by decide]
  simp only [bS]
  have := r1_classes_l3_eq he (valsG e.Attrs k_objectclass) [] false [] [] FUEL (fuel_gt (by omega)) (by simpa using hv.1) (fun s hs => by have := hv.2 s hs; omega) (by simp) (by simp)
  rw [nil_len, List.nil_append] at this
  rw [this]
  cases hc : clsG (valsG e.Attrs k_objectclass) false [] [] with
  | none => rfl
  | some x =>
    have hx := clsG_len _ _ _ _ x hc
    simp only [List.length_nil, Nat.zero_add] at hx
    simp only
    unfold r1_classes_k1
    have := r1_classes_l2_eq he x.2.2 x.1 x.2.1 (by omega) (by omega) (hx.2.2 (by simp)) (clsG_short _ _ _ _ x hc (by simp)) x.2.1 [] FUEL rfl (fuel_gt (by omega))
    rw [nil_len] at this
    exact this
theorem r1_Has_l1_eq (ty v : Str) (ht : ty.length ≤ 1000000) : ∀ (t a : List Str) (g : Nat), t.length < g → (a ++ t).length ≤ 100000 → r1_Has_l1 ty v (a ++ t) g (a.length : Int) = some (t.any fun x => sameS ty x v)
  | [], a, g, hg, hl => by
    obtain ⟨g, rfl⟩ := pos_of hg
    simp only [r1_Has_l1, at_e, cF, r1_Has_k1, List.any_nil]
  | c :: t, a, g, hg, hl => by
    obtain ⟨g, rfl⟩ := pos_of hg
    obtain ⟨h1, h2, h3, h4⟩ := at_c a c t (by omega)
    simp only [r1_Has_l1, h1, h2, cT, bS, h3, e_r1_SameVal ty c v ht]
    rw [h4, r1_Has_l1_eq ty v ht t (a ++ [c]) g (by simp at hg; omega) (by rw [← h4]; exact hl), List.any_cons]
    cases sameS ty c v <;> simp
theorem e_r1_Has {e : T_Entry} (he : SmallE e) (ty v : Str) (ht : ty.length ≤ 1000000) : s_r1_Has e ty v = some ((valsG e.Attrs (lowS ty)).any fun x => sameS ty x v) := by
  unfold s_r1_Has
  have hv := (valsG_small he (lowS ty)).1
  rw [e_r1_Vals he ty ht]
  simp only [bS]
  have := r1_Has_l1_eq ty v ht (valsG e.Attrs (lowS ty)) [] FUEL (fuel_gt (by omega)) (by simp; omega)
  rw [nil_len, List.nil_append] at this
  exact this
/-- What is wrong with an entry; 0: nothing. -/
def checkG (e : T_Entry) : Int := match parS e.Dn with
  | none => 34
  | some [] => 34
  | some (r :: l) => if foldN (r :: l) = none then 34
    else if 20 < e.Attrs.length then 19
    else if attrsG [] e.Attrs ≠ 0 then attrsG [] e.Attrs
    else if classedR e = false then 65
    else if ((valsG e.Attrs (lowS r.Typ)).any fun x => sameS r.Typ x r.Val) = false then 64
    else 0
theorem keyS_of {s : Str} {l : List T_Rdn} (h : parS s = some l) : (keyS s).isSome = (foldN l).isSome := by
  unfold keyS; rw [h]; simp
theorem len20 (l : List T_Attr) : decide ((l.length : Int) > 20) = decide (20 < l.length) := by
  by_cases h : 20 < l.length
  · rw [decide_eq_true h, decide_eq_true (by omega)]
  · rw [decide_eq_false h, decide_eq_false (by omega)]
theorem e_r1_Check {e : T_Entry} (he : SmallE e) : s_r1_Check e = some (checkG e) := by
  have hd := he.dn
  unfold s_r1_Check checkG
  rw [e_r1_ParseDn e.Dn (by omega), e_r1_Key e.Dn (by omega)]
  simp only [bS, len20, e_r1_attrs he, e_r1_classes he]
  cases hp : parS e.Dn with
  | none => rfl
  | some l =>
    have hk := keyS_of hp
    have hm := mayN_len (parS_may hp)
    cases l with
    | nil => rfl
    | cons r l =>
      have hr := (hm.2 r (by simp)).1
      simp only [Option.getD_some, Option.isSome_some, Bool.not_true, cF]
      rw [show (((r :: l).length : Int) == 0) = false by rw [beq_eq_false_iff_ne]; simp only [List.length_cons]; omega, cF, hk]
      simp only [bS]
      cases hf : foldN (r :: l) with
      | none => rfl
      | some m =>
        rw [if_neg (by simp)]
        simp only [Option.isSome_some, Bool.not_true, cF]
        by_cases h20 : 20 < e.Attrs.length
        · rw [if_pos h20, decide_eq_true h20]; rfl
        · rw [if_neg h20, decide_eq_false h20, cF]
          by_cases ha : attrsG [] e.Attrs = 0
          · rw [ha, if_neg (by simp), show ((0 : Int) != 0) = false from rfl, cF, show lgetO (r :: l) 0 = some r from rfl]
            simp only [bS, e_r1_Has he r.Typ r.Val (show r.Typ.length ≤ 1000000 by omega)]
            cases classedR e with
            | false => rfl
            | true =>
              rw [if_neg (by simp)]
              simp only [Bool.not_true, cF]
              cases (valsG e.Attrs (lowS r.Typ)).any fun x => sameS r.Typ x r.Val <;> rfl
          · rw [if_pos ha, show (attrsG [] e.Attrs != 0) = true by simpa using ha, cT]

/-! The program's. -/
theorem find_snoc {α : Type} (p : α → Bool) (l : List α) (x : α) (h : l.find? p = none) : (l ++ [x]).find? p = if p x = true then some x else none := by
  rw [List.find?_append, h]
  simp [List.find?_cons]
  cases p x <;> rfl
theorem valsG_snoc (l : List T_Attr) (a : T_Attr) (t : Str) (h : (l.any fun x => lowS x.Typ == lowS a.Typ) = false) : valsG (l ++ [a]) t = if lowS a.Typ = t then a.Vals else valsG l t := by
  unfold valsG
  by_cases ht : lowS a.Typ = t
  · subst ht
    rw [List.any_eq_false] at h
    rw [find_snoc _ _ _ (List.find?_eq_none.2 h), if_pos (by simp), if_pos rfl]
  · rw [if_neg ht, List.find?_append]
    cases hf : l.find? (fun a => lowS a.Typ == t) with
    | some b => rfl
    | none =>
      simp [List.find?_cons, ht]
theorem schema_Check_l1_eq {e : T_Entry} (he : SmallE e) (r : T_Rdn) (hr : r.Typ.length ≤ 1000000) : ∀ (t p : List T_Attr) (g : Nat), e.Attrs = p ++ t → t.length < g →
    schema_Check_l1 e r g (valsG p k_objectclass) ((valsG p (lowS r.Typ)).any fun x => sameS r.Typ x r.Val) (p.length : Int) (p.map fun a => lowS a.Typ) =
      if attrsG p t ≠ 0 then some (attrsG p t) else schema_Check_k1 (valsG (p ++ t) k_objectclass) ((valsG (p ++ t) (lowS r.Typ)).any fun x => sameS r.Typ x r.Val) ((p ++ t).map fun a => lowS a.Typ)
  | [], p, g, hp, hg => by
    obtain ⟨g, rfl⟩ := pos_of hg
    simp only [schema_Check_l1, hp, at_e, cF]
    rw [List.append_nil, if_neg (show ¬ attrsG p [] ≠ 0 from fun h => h rfl)]
  | a :: t, p, g, hp, hg => by
    obtain ⟨g, rfl⟩ := pos_of hg
    have hl : (p ++ a :: t).length ≤ 1000 := by rw [← hp]; exact he.attrs
    obtain ⟨h1, h2, h3, h4⟩ := at_c p a t (by omega)
    have ha : SmallA a := he.attr a (by rw [hp]; simp)
    have hty := ha.typ
    have hvl := ha.vals
    have hpl : (p.map fun a => lowS a.Typ).length ≤ 1000 := by simp at hl ⊢; omega
    have hany : (p.map fun a => lowS a.Typ).any (· == lowS a.Typ) = p.any fun x => lowS x.Typ == lowS a.Typ := by rw [List.any_map]; rfl
    simp only [schema_Check_l1, hp, h1, h2, cT, bS, e_schema_attribute a _ (show a.Typ.length ≤ 1000000 by omega) (show (p.map fun a => lowS a.Typ).length ≤ 1000000 by omega) (show a.Vals.length ≤ 10000 by omega), hany]
    unfold attrsG
    by_cases h0 : attrG a (p.any fun x => lowS x.Typ == lowS a.Typ) = 0
    · rw [h0, if_pos rfl]
      have hru : ruleS a.Typ ≠ 0 := by
        intro h; unfold attrG at h0; rw [if_pos h] at h0; exact absurd h0 (by decide)
      have hhad : (p.any fun x => lowS x.Typ == lowS a.Typ) = false := by
        cases hb : p.any fun x => lowS x.Typ == lowS a.Typ with
        | false => rfl
        | true => unfold attrG at h0; rw [if_neg hru, hb, if_pos rfl] at h0; exact absurd h0 (by decide)
      rw [show ((0 : Int) != 0) = false from rfl, cF, e_match_Canon a.Typ (by omega), if_neg hru]
      have app : appO 16 (p.map fun a => lowS a.Typ) [lowS a.Typ] = some ((p ++ [a]).map fun a => lowS a.Typ) := by rw [appO_eq (by simp at hpl ⊢; omega)]; simp
      have hsame : s_slices_ContainsFunc_string a.Vals (fun x => s_schema_Check_1 x (lowS a.Typ) r) = some (a.Vals.any fun x => sameS a.Typ x r.Val) := e_ContainsFunc _ _ _ (by omega) fun x _ => by
        unfold s_schema_Check_1
        rw [e_match_Same _ _ _ (by simp; omega), sameS_low]
        rfl
      simp only [bS, app, e_schema_lowered r.Typ (show r.Typ.length ≤ 1000000000 by omega), hsame, h3]
      have ih := schema_Check_l1_eq he r hr t (p ++ [a]) g (by rw [hp, h4]) (by simp at hg; omega)
      rw [← h4, valsG_snoc p a _ hhad, valsG_snoc p a _ hhad] at ih
      have hst : lowS a.Typ = lowS r.Typ → (a.Vals.any fun x => sameS a.Typ x r.Val) = (a.Vals.any fun x => sameS r.Typ x r.Val) := fun h => by
        have hx : (fun x => sameS a.Typ x r.Val) = fun x => sameS r.Typ x r.Val := funext fun x => by rw [← sameS_low a.Typ, h, sameS_low]
        rw [hx]
      by_cases ho : lowS a.Typ = k_objectclass
      · rw [show (lowS a.Typ == k_objectclass) = true from beq_iff_eq.2 ho, cT]
        rw [if_pos ho] at ih
        by_cases hn : lowS a.Typ = lowS r.Typ
        · rw [show (lowS a.Typ == lowS r.Typ) = true from beq_iff_eq.2 hn, cT, hst hn]
          rw [if_pos hn] at ih
          exact ih
        · rw [show (lowS a.Typ == lowS r.Typ) = false from beq_eq_false_iff_ne.2 hn, cF]
          rw [if_neg hn] at ih
          exact ih
      · rw [show (lowS a.Typ == k_objectclass) = false from beq_eq_false_iff_ne.2 ho, cF]
        rw [if_neg ho] at ih
        by_cases hn : lowS a.Typ = lowS r.Typ
        · rw [show (lowS a.Typ == lowS r.Typ) = true from beq_iff_eq.2 hn, cT, hst hn]
          rw [if_pos hn] at ih
          exact ih
        · rw [show (lowS a.Typ == lowS r.Typ) = false from beq_eq_false_iff_ne.2 hn, cF]
          rw [if_neg hn] at ih
          exact ih
    · rw [if_neg h0, if_pos h0, show (attrG a (p.any fun x => lowS x.Typ == lowS a.Typ) != 0) = true by simpa using h0, cT]
theorem any_low (l : List T_Attr) (m : Str) : (l.map fun a => lowS a.Typ).any (· == m) = l.any fun a => lowS a.Typ == m := by rw [List.any_map]; rfl
theorem classed_ref {e : T_Entry} : classedG (e.Attrs.map fun a => lowS a.Typ) (valsG e.Attrs k_objectclass) = classedR e := by
  unfold classedG classedR
  cases clsG (valsG e.Attrs k_objectclass) false [] [] with
  | none => rfl
  | some x =>
    simp only [any_low, List.all_map]
    show (x.1 && (x.2.1.all fun m => e.Attrs.any fun a => lowS a.Typ == m) && (e.Attrs.all fun a => x.2.1.any (· == lowS a.Typ) || x.2.2.any (· == lowS a.Typ))) = _
    cases x.1 <;> simp
theorem e_schema_Check {e : T_Entry} (he : SmallE e) : s_schema_Check e = some (checkG e) := by
  have hd := he.dn
  unfold s_schema_Check checkG
  rw [e_dn_Parse e.Dn (by omega), e_dn_Key e.Dn (by omega)]
  simp only [bS, len20]
  cases hp : parS e.Dn with
  | none => rfl
  | some l =>
    have hk := keyS_of hp
    have hm := mayN_len (parS_may hp)
    cases l with
    | nil => rfl
    | cons r l =>
      have hr := (hm.2 r (by simp)).1
      simp only [Option.getD_some, Option.isSome_some, Bool.not_true, cF]
      rw [show (((r :: l).length : Int) == 0) = false by rw [beq_eq_false_iff_ne]; simp only [List.length_cons]; omega, hk]
      simp only [bS, cF]
      cases hf : foldN (r :: l) with
      | none => rfl
      | some m =>
        rw [if_neg (by simp)]
        simp only [Option.isSome_some, Bool.not_true, cF]
        by_cases h20 : 20 < e.Attrs.length
        · rw [if_pos h20, decide_eq_true h20]; rfl
        · rw [if_neg h20, decide_eq_false h20, cF, show lgetO (r :: l) 0 = some r from rfl]
          simp only [bS]
          have hc := schema_Check_l1_eq he r (by omega) e.Attrs [] FUEL rfl (fuel_gt (by have := he.attrs; omega))
          have hv := valsG_small he k_objectclass
          rw [nil_len, List.nil_append, show valsG [] k_objectclass = [] from rfl, show valsG [] (lowS r.Typ) = [] from rfl] at hc
          rw [show (([] : List Str).any fun x => sameS r.Typ x r.Val) = false from rfl, show (([] : List T_Attr).map fun a => lowS a.Typ) = [] from rfl] at hc
          rw [hc]
          by_cases ha : attrsG [] e.Attrs = 0
          · rw [if_neg (by simpa using ha), if_neg (by simpa using ha)]
            unfold schema_Check_k1
            rw [e_schema_classed _ _ (by simp; omega) hv.1 (fun s hs => by have := hv.2 s hs; omega), classed_ref]
            simp only [bS]
            cases classedR e with
            | false => rfl
            | true =>
              rw [if_neg (by simp)]
              simp only [Bool.not_true, cF]
              cases (valsG e.Attrs (lowS r.Typ)).any fun x => sameS r.Typ x r.Val <;> rfl
          · rw [if_pos ha, if_pos ha]
end Go.Ka
