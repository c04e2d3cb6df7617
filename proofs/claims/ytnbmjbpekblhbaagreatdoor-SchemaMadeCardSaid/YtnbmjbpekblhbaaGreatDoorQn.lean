/- Plain laws: SchemaAll answers true, whatever the entry and the name. -/
import Derived.Test.YtnbmjbpekblhbaaGreatDoorMG
import Derived.Test.YtnbmjbpekblhbaaGreatDoorPW
set_option linter.all false
namespace Go.Ka
set_option maxRecDepth 100000

theorem lget_mid {α : Type} (a : List α) (c : α) (t : List α) : lgetO (a ++ c :: t) (a.length : Int) = some c := by rw [lgetO_nat]; simp
def bigA (a : T_Attr) : Bool := decide (100 < a.Typ.length) || decide (50 < a.Vals.length) || a.Vals.any fun v => decide (300 < v.length)
def greatG (e : T_Entry) : Bool := (e.Attrs.take 30).any bigA || (decide (25 < e.Attrs.length) || decide (600 < e.Dn.length))
theorem gt_nat (n m : Nat) : decide ((n : Int) > (m : Int)) = decide (m < n) := by
  by_cases h : m < n
  · rw [decide_eq_true h, decide_eq_true (by omega)]
  · rw [decide_eq_false h, decide_eq_false (by omega)]
theorem Great_l2_eq (e : T_Entry) (i : Int) (K : Int → Option Bool) (a : T_Attr) (hi : lgetO e.Attrs i = some a) : ∀ (t q : List Str) (g : Nat), a.Vals = q ++ t → t.length < g → (q ++ t).length ≤ 1000 →
    brooklaw4_Great_l2 e i K g (q.length : Int) = bif t.any (fun v => decide (300 < v.length)) then some true else brooklaw4_Great_k3 i K
  | [], q, g, hq, hg, hl => by
    obtain ⟨g, rfl⟩ := pos_of hg
    simp only [brooklaw4_Great_l2, hi, bS, hq, at_e, cF, List.any_nil]
  | v :: t, q, g, hq, hg, hl => by
    obtain ⟨g, rfl⟩ := pos_of hg
    obtain ⟨h1, h2, h3, h4⟩ := at_c q v t (by omega)
    have ih := Great_l2_eq e i K a hi t (q ++ [v]) g (by rw [hq, h4]) (by simp at hg; omega) (by rw [← h4]; exact hl)
    simp only [brooklaw4_Great_l2, hi, bS, hq, h1, cT, h2, h3, ih]
    rw [show decide ((v.length : Int) > 300) = decide (300 < v.length) from gt_nat _ 300, List.any_cons]
    cases decide (300 < v.length) <;> simp
theorem Great_l1_eq (e : T_Entry) : ∀ (d : Nat) (p t : List T_Attr) (g : Nat), e.Attrs = p ++ t → p.length + d = 30 → d < g →
    brooklaw4_Great_l1 e g (p.length : Int) = some ((t.take d).any bigA || (decide (25 < e.Attrs.length) || decide (600 < e.Dn.length))) := by
  have k1 : brooklaw4_Great_k1 e = some (decide (25 < e.Attrs.length) || decide (600 < e.Dn.length)) := by
    unfold brooklaw4_Great_k1
    rw [show decide ((e.Attrs.length : Int) > 25) = decide (25 < e.Attrs.length) from gt_nat _ 25, show decide ((e.Dn.length : Int) > 600) = decide (600 < e.Dn.length) from gt_nat _ 600, bifOr]
    rfl
  intro d
  induction d with
  | zero =>
    intro p t g hp hd hg
    obtain ⟨g, rfl⟩ := pos_of hg
    simp only [brooklaw4_Great_l1]
    rw [decide_eq_false (show ¬ ((p.length : Int) < 30) by omega)]
    have : ((bif decide ((p.length : Int) < (e.Attrs.length : Int)) then some false else some false) : Option Bool) = some false := by cases decide ((p.length : Int) < (e.Attrs.length : Int)) <;> rfl
    rw [this, bS, cF, k1]
    simp
  | succ d ih =>
    intro p t g hp hd hg
    obtain ⟨g, rfl⟩ := pos_of hg
    simp only [brooklaw4_Great_l1]
    rw [decide_eq_true (show ((p.length : Int) < 30) by omega)]
    cases t with
    | nil =>
      rw [decide_eq_false (show ¬ ((p.length : Int) < (e.Attrs.length : Int)) by rw [hp]; simp), cF, bS, cF, k1]
      simp
    | cons a t =>
      have ha : lgetO e.Attrs (p.length : Int) = some a := by rw [hp]; exact lget_mid p a t
      have h3 : addO (p.length : Int) 1 = some ((p ++ [a]).length : Int) := by rw [addO_eq (by omega)]; simp
      rw [decide_eq_true (show ((p.length : Int) < (e.Attrs.length : Int)) by rw [hp]; simp; omega), cT, bS, cT, ha]
      simp only [bS]
      rw [show decide ((a.Typ.length : Int) > 100) = decide (100 < a.Typ.length) from gt_nat _ 100, show decide ((a.Vals.length : Int) > 50) = decide (50 < a.Vals.length) from gt_nat _ 50, bifOr]
      simp only [bS]
      rw [List.take_succ_cons, List.any_cons]
      cases hb : (decide (100 < a.Typ.length) || decide (50 < a.Vals.length)) with
      | true =>
        have : bigA a = true := by unfold bigA; rw [hb]; rfl
        rw [cT, this]; rfl
      | false =>
        rw [cF]
        have hv : a.Vals.length ≤ 50 := by
          rw [Bool.or_eq_false_iff] at hb
          have := of_decide_eq_false hb.2
          omega
        have h2 := Great_l2_eq e (p.length : Int) (brooklaw4_Great_l1 e g) a ha a.Vals [] FUEL rfl (fuel_gt (by omega)) (by simp; omega)
        rw [nil_len] at h2
        rw [h2]
        have hbig : bigA a = a.Vals.any fun v => decide (300 < v.length) := by unfold bigA; rw [hb]; rfl
        rw [hbig]
        cases a.Vals.any (fun v => decide (300 < v.length)) with
        | true => rw [cT]; rfl
        | false =>
          rw [cF]
          unfold brooklaw4_Great_k3 brooklaw4_Great_k2
          rw [h3, bS, ih (p ++ [a]) t g (by rw [hp]; simp) (by simp; omega) (by omega)]
          rfl
theorem e_Great (e : T_Entry) : s_brooklaw4_Great e = some (greatG e) := by
  have := Great_l1_eq e 30 [] e.Attrs FUEL rfl rfl (fuel_gt (by omega))
  rw [nil_len] at this
  exact this
theorem small_of {e : T_Entry} (h : greatG e = false) : SmallE e := by
  unfold greatG at h
  rw [Bool.or_eq_false_iff, Bool.or_eq_false_iff] at h
  have h1 := of_decide_eq_false h.2.1
  have h2 := of_decide_eq_false h.2.2
  refine ⟨by omega, by omega, fun a ha => ?_⟩
  rw [List.take_of_length_le (by omega), List.any_eq_false] at h
  have hb := h.1 a ha
  unfold bigA at hb
  simp only [Bool.or_eq_true, decide_eq_true_eq, List.any_eq_true, not_or, not_exists, not_and] at hb
  exact ⟨by omega, by omega, fun v hv => by have := hb.2 v hv; omega⟩
theorem r1_Texts_l1_eq : ∀ (t a : List Str) (g : Nat), t.length < g → (a ++ t).length ≤ 1000000 → r1_Texts_l1 (a ++ t) (a ++ t) g (a.length : Int) = some true
  | [], a, g, hg, hl => by
    obtain ⟨g, rfl⟩ := pos_of hg
    simp only [r1_Texts_l1, at_e, cF, r1_Texts_k1]
  | c :: t, a, g, hg, hl => by
    obtain ⟨g, rfl⟩ := pos_of hg
    obtain ⟨h1, h2, h3, h4⟩ := at_c a c t (by omega)
    simp only [r1_Texts_l1, h1, h2, cT, bS, h3]
    rw [show (c == c) = true by simp]
    simp only [Bool.not_true, cF]
    rw [h4]
    exact r1_Texts_l1_eq t (a ++ [c]) g (by simp at hg; omega) (by rw [← h4]; exact hl)
theorem e_r1_Texts (l : List Str) (h : l.length ≤ 1000000) : s_r1_Texts l l = some true := by
  unfold s_r1_Texts
  rw [show ((l.length : Int) != (l.length : Int)) = false by simp, cF]
  have := r1_Texts_l1_eq l [] FUEL (fuel_gt (by omega)) h
  rw [nil_len, List.nil_append] at this
  exact this
theorem e_awake4 : s_brooklaw4_awake = some true := by decide +kernel
theorem all_law (e : T_Entry) (name : Str) : s_brooklaw4_SchemaAll e name = some true := by
  unfold s_brooklaw4_SchemaAll
  rw [e_Great, show decide ((name.length : Int) > 100) = decide (100 < name.length) from gt_nat _ 100]
  simp only [bS, bifOr]
  cases hb : (greatG e || decide (100 < name.length)) with
  | true => rw [cT, e_awake4]; rfl
  | false =>
    rw [Bool.or_eq_false_iff] at hb
    have he := small_of hb.1
    have hn := of_decide_eq_false hb.2
    rw [cF, e_schema_Find name (by omega), e_r1_FindClass name (by omega), e_schema_Check he, e_r1_Check he, e_awake4]
    simp only [bS]
    rw [show (checkG e == checkG e) = true by simp]
    cases hc : findC name with
    | none => rfl
    | some c =>
      have hx := class_at (findC_mem hc)
      simp only
      rw [e_r1_Texts c.Must (by omega), e_r1_Texts c.May (by omega)]
      simp only [beq_self_eq_true, cT, bS]
end Go.Ka
