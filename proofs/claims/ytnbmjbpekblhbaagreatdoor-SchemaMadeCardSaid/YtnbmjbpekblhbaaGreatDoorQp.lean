/- Plain laws: SchemaMade answers true, whatever the numbers. -/
import Derived.Test.YtnbmjbpekblhbaaGreatDoorQn
import Derived.Test.YtnbmjbpekblhbaaGreatDoorPM
set_option linter.all false
namespace Go.Ka
set_option maxRecDepth 100000

theorem remO_c {a b : Int} (h : b ≠ 0) : remO a b = some (a.tmod b) := okO_eq (by simp [h])
theorem dig_ex {n : Int} (h : -1000 ≤ n ∧ n ≤ 1000) : ∃ s, s_r1_Digits n = some s ∧ s.length ≤ 21 := by
  refine ⟨_, e_r1_Digits n (by omega), ?_⟩
  unfold Lib.itoa
  split
  · have := dec_len (u := n.natAbs) (by omega)
    simp; omega
  · have := dec_len (u := n.toNat) (by omega)
    omega
/-- An attribute of a made entry. -/
def mA (k : Nat) (a : T_Attr) : Prop := a.Typ.length ≤ 50 ∧ a.Vals.length ≤ k ∧ ∀ v ∈ a.Vals, v.length ≤ 100
theorem mA.mono {k k' : Nat} {a : T_Attr} (h : mA k a) (hk : k ≤ k') : mA k' a := ⟨h.1, by have := h.2.1; omega, h.2.2⟩
def mE (d n k : Nat) (e : T_Entry) : Prop := e.Dn.length ≤ d ∧ e.Attrs.length ≤ n ∧ ∀ a ∈ e.Attrs, mA k a
def fullA (l : List T_Attr) : Prop := l ≠ [] ∧ ∀ a ∈ l, a.Vals ≠ []
theorem mE.small {d n k : Nat} {e : T_Entry} (h : mE d n k e) (hd : d ≤ 1000) (hn : n ≤ 1000) (hk : k ≤ 1000) : SmallE e :=
  ⟨by have := h.1; omega, by have := h.2.1; omega, fun a ha => ⟨by have := (h.2.2 a ha).1; omega, by have := (h.2.2 a ha).2.1; omega, fun v hv => by have := (h.2.2 a ha).2.2 v hv; omega⟩⟩

/-! One thing changed. -/
theorem set_all {α : Type} {p : α → Prop} {l : List α} (h : ∀ a ∈ l, p a) {b : α} (hb : p b) (i : Nat) : ∀ a ∈ l.set i b, p a := fun a ha => by
  rcases List.mem_or_eq_of_mem_set ha with h1 | rfl
  · exact h a h1
  · exact hb
theorem turned_ok {d n k : Nat} {e : T_Entry} (he : mE d n k e) (hf : fullA e.Attrs) (hd : d ≤ 900) (hn : n ≤ 900) (hk : k ≤ 900) (how : Int) (W : Nat) (hW : W ≤ 10000) :
    ∃ e', s_brooklaw4_turned e how (W : Int) = some e' ∧ mE (d + 20) (n + 1) (k + 1) e' := by
  obtain ⟨hd', hn', ha'⟩ := he
  have hlen : 0 < e.Attrs.length := List.length_pos_iff.2 hf.1
  have hi : W % e.Attrs.length < e.Attrs.length := Nat.mod_lt _ hlen
  obtain ⟨a, ha⟩ : ∃ a, e.Attrs[W % e.Attrs.length]? = some a := ⟨_, List.getElem?_eq_getElem hi⟩
  have hm : a ∈ e.Attrs := List.mem_of_getElem? ha
  have hA := ha' a hm
  have hv := hf.2 a hm
  have up : ∀ x ∈ e.Attrs, mA (k + 1) x := fun x hx => (ha' x hx).mono (by omega)
  have e1 : appO 40 ([] : List T_Attr) e.Attrs = some e.Attrs := by rw [appO_eq (by simp; omega)]; rfl
  have e2 : remO (W : Int) (e.Attrs.length : Int) = some ((W % e.Attrs.length : Nat) : Int) := by rw [remO_c (by omega)]; rfl
  have e3 : lgetO e.Attrs ((W % e.Attrs.length : Nat) : Int) = some a := by rw [lgetO_nat]; exact ha
  have st : ∀ b, mA (k + 1) b → mE (d + 20) (n + 1) (k + 1) ⟨e.Dn, e.Attrs.set (W % e.Attrs.length) b⟩ := fun b hb =>
    ⟨by show e.Dn.length ≤ _; omega, by show (List.set _ _ _).length ≤ _; rw [List.length_set]; omega, set_all up hb _⟩
  unfold s_brooklaw4_turned
  rw [e1, bS, e2, bS, e3, bS, remO_c (by decide), bS, Int.toNat_natCast]
  generalize how.tmod 12 = z
  cases z == 0 with
  | true => exact ⟨_, rfl, st _ ⟨by show [110, 111, 110, 101].length ≤ 50; decide, by show a.Vals.length ≤ _; have := hA.2.1; omega, hA.2.2⟩⟩
  | false =>
  rw [cF]
  cases z == 1 with
  | true => exact ⟨_, rfl, st _ ⟨hA.1, by simp, fun v hv => by cases hv⟩⟩
  | false =>
  rw [cF]
  cases z == 2 with
  | true =>
    rw [cT]
    obtain ⟨v, t, hvt⟩ : ∃ v t, a.Vals = v :: t := by
      cases h : a.Vals with
      | nil => exact absurd h hv
      | cons v t => exact ⟨v, t, rfl⟩
    have hl := hA.2.1
    rw [appO_eq (by simp; omega), bS, show lgetO a.Vals 0 = some v by rw [hvt]; rfl, bS, List.nil_append, appO_eq (by simp; omega), bS]
    refine ⟨_, rfl, st _ ⟨hA.1, by show (a.Vals ++ [v]).length ≤ _; simp; omega, fun x hx => ?_⟩⟩
    rcases List.mem_append.1 hx with h | h
    · exact hA.2.2 x h
    · rw [List.mem_singleton.1 h]
      exact hA.2.2 v (by rw [hvt]; exact List.mem_cons_self)
  | false =>
  rw [cF]
  cases z == 3 with
  | true =>
    rw [cT]
    have hl := hA.2.1
    rw [appO_eq (by simp; omega), bS]
    refine ⟨_, rfl, st _ ⟨hA.1, by show ([k_x2020] ++ a.Vals).length ≤ _; simp; omega, fun x hx => ?_⟩⟩
    rcases List.mem_append.1 hx with h | h
    · rw [List.mem_singleton.1 h]; decide
    · exact hA.2.2 x h
  | false =>
  rw [cF]
  cases z == 4 with
  | true =>
    rw [cT, appO_eq (by simp; omega), bS]
    refine ⟨_, rfl, by show e.Dn.length ≤ _; omega, by show (e.Attrs ++ [a]).length ≤ _; simp; omega, fun x hx => ?_⟩
    rcases List.mem_append.1 hx with h | h
    · exact up x h
    · rw [List.mem_singleton.1 h]; exact up a hm
  | false =>
  rw [cF]
  cases z == 5 with
  | true =>
    rw [cT, bS, lsubO_eq (by omega), bS, bS, addO_eq (by omega), bS, lsubO_eq (by omega), bS]
    have h1 : (((e.Attrs.drop (0 : Int).toNat).take (((W % e.Attrs.length : Nat) : Int).toNat - (0 : Int).toNat))).length ≤ n := by simp; omega
    generalize hx : ((e.Attrs.drop (0 : Int).toNat).take (((W % e.Attrs.length : Nat) : Int).toNat - (0 : Int).toNat)) = x
    generalize hy : ((e.Attrs.drop (((W % e.Attrs.length : Nat) : Int) + 1).toNat).take ((e.Attrs.length : Int).toNat - (((W % e.Attrs.length : Nat) : Int) + 1).toNat)) = y
    have hxl : x.length + y.length ≤ n := by
      rw [← hx, ← hy]
      simp
      omega
    rw [appO_eq (by omega), bS]
    refine ⟨_, rfl, by show e.Dn.length ≤ _; omega, by show (x ++ y).length ≤ _; simp; omega, fun q hq => ?_⟩
    rcases List.mem_append.1 hq with h | h
    · rw [← hx] at h
      exact up q (List.mem_of_mem_drop (List.mem_of_mem_take h))
    · rw [← hy] at h
      exact up q (List.mem_of_mem_drop (List.mem_of_mem_take h))
  | false =>
  rw [cF]
  cases z == 6 with
  | true => exact ⟨_, rfl, st _ ⟨by show [111, 117].length ≤ 50; decide, by show a.Vals.length ≤ _; have := hA.2.1; omega, hA.2.2⟩⟩
  | false =>
  rw [cF]
  cases z == 7 with
  | true =>
    rw [cT, catO_eq (by simp; omega), bS]
    exact ⟨_, rfl, by show (k_x736e3d7a7a2c ++ e.Dn).length ≤ _; simp; omega, by show e.Attrs.length ≤ _; omega, up⟩
  | false =>
  rw [cF]
  cases z == 8 with
  | true =>
    rw [cT, catO_eq (by simp; omega), bS]
    exact ⟨_, rfl, by show (e.Dn ++ k_x2c).length ≤ _; simp; omega, by show e.Attrs.length ≤ _; omega, up⟩
  | false =>
  rw [cF]
  cases z == 9 with
  | true => exact ⟨_, rfl, st _ ⟨hA.1, by show 1 ≤ _; omega, fun x hx => by rw [List.mem_singleton.1 hx]; decide⟩⟩
  | false =>
  rw [cF]
  cases z == 10 with
  | true =>
    refine ⟨_, rfl, st _ ⟨hA.1, ?_, fun x hx => ?_⟩⟩
    · show 2 ≤ k + 1
      have : 0 < a.Vals.length := List.length_pos_iff.2 hv
      have := hA.2.1
      omega
    · simp only [List.mem_cons, List.not_mem_nil, or_false] at hx
      rcases hx with rfl | rfl <;> decide
  | false =>
  rw [cF]
  exact ⟨_, rfl, st _ ⟨by show [77, 69, 77, 66, 69, 82].length ≤ 50; decide, by show a.Vals.length ≤ _; have := hA.2.1; omega, hA.2.2⟩⟩

/-! An entry by numbers. -/
def nums (w : List Int) : Prop := w.length = 8 ∧ ∀ x ∈ w, 0 ≤ x ∧ x ≤ 255
theorem nums.get {w : List Int} (h : nums w) {i : Nat} (hi : i < 8) : ∃ x, lgetO w (i : Int) = some x ∧ 0 ≤ x ∧ x ≤ 255 := by
  have hl : i < w.length := by rw [h.1]; exact hi
  exact ⟨w[i], by rw [lgetO_nat]; exact List.getElem?_eq_getElem hl, h.2 _ (List.getElem_mem hl)⟩
theorem nums.set {w : List Int} (h : nums w) {x : Int} (hx : 0 ≤ x ∧ x ≤ 255) (i : Nat) : nums (w.set i x) := ⟨by rw [List.length_set]; exact h.1, set_all h.2 hx i⟩
def mG (a : T_Attr) : Prop := a.Vals ≠ [] ∧ mA 4 a
def mL (n : Nat) (l : List T_Attr) : Prop := l ≠ [] ∧ l.length ≤ n ∧ ∀ a ∈ l, mG a
theorem mL.app {n m : Nat} {l l' : List T_Attr} (h : mL n l) (h' : l'.length ≤ m ∧ ∀ a ∈ l', mG a) : mL (n + m) (l ++ l') := by
  refine ⟨by simp [h.1], by have := h.2.1; have := h'.1; simp; omega, fun a ha => ?_⟩
  rcases List.mem_append.1 ha with x | x
  · exact h.2.2 a x
  · exact h'.2 a x
theorem mL.mono {n m : Nat} {l : List T_Attr} (h : mL n l) (k : n ≤ m) : mL m l := ⟨h.1, by have := h.2.1; omega, h.2.2⟩
theorem mL.set {n : Nat} {l : List T_Attr} (h : mL n l) {b : T_Attr} (hb : mG b) (i : Nat) : mL n (l.set i b) :=
  ⟨fun e => h.1 (by have := congrArg List.length e; simpa using this), by rw [List.length_set]; exact h.2.1, set_all h.2.2 hb i⟩
theorem mG1 {t v : Str} (ht : t.length ≤ 50) (hv : v.length ≤ 100) : mG ⟨t, [v]⟩ := ⟨by simp, ht, by show 1 ≤ 4; decide, fun x hx => by rw [List.mem_singleton.1 hx]; exact hv⟩
def made (e : T_Entry) : Prop := mE 200 20 4 e ∧ fullA e.Attrs
theorem mL.made {l : List T_Attr} (h : mL 20 l) {d : Str} (hd : d.length ≤ 200) : made ⟨d, l⟩ := ⟨⟨hd, h.2.1, fun a ha => (h.2.2 a ha).2⟩, h.1, fun a ha => (h.2.2 a ha).1⟩
section
variable {w : List Int} (hw : nums w) {n : Str} (hn : n.length ≤ 50) {q : T_EntryT} (hq : q.Dn.length ≤ 100)
include hw hn hq
theorem Make_k5_ok {l : List T_Attr} (h : mL 20 l) : ∃ e, brooklaw4_Make_k5 w n q l = some e ∧ made e := by
  obtain ⟨x, h1, _⟩ := hw.get (i := 5) (by decide)
  unfold brooklaw4_Make_k5
  rw [show lgetO w 5 = some x from h1, bS, remO_c (by decide), bS]
  cases x.tmod 5 == 0 with
  | true =>
    rw [cT, catO_eq (by simp; omega), bS]
    exact ⟨_, rfl, h.made (by show (k_x636e3d ++ n).length ≤ _; simp; omega)⟩
  | false =>
  rw [cF]
  cases x.tmod 5 == 1 with
  | true =>
    rw [cT, catO_eq (by simp; omega), bS, catO_eq (by simp; omega), bS]
    exact ⟨_, rfl, h.made (by show (k_x434e3d ++ n ++ k_x2c6f753d612c6f3d78).length ≤ _; simp; omega)⟩
  | false => exact ⟨_, rfl, h.made (by show q.Dn.length ≤ _; omega)⟩
theorem Make_k4_ok {l : List T_Attr} (h : mL 19 l) : ∃ e, brooklaw4_Make_k4 w n q l = some e ∧ made e := by
  obtain ⟨x, h1, _⟩ := hw.get (i := 3) (by decide)
  have hl := h.2.1
  unfold brooklaw4_Make_k4
  rw [show lgetO w 3 = some x from h1, bS, remO_c (by decide), bS]
  cases x.tmod 4 == 1 with
  | true =>
    rw [cT, appO_eq (by simp; omega), bS]
    exact Make_k5_ok hw hn hq (h.app (m := 1) ⟨by simp, fun a ha => by rw [List.mem_singleton.1 ha]; exact mG1 (by decide) (by decide)⟩)
  | false => exact Make_k5_ok hw hn hq ⟨h.1, by omega, h.2.2⟩
end
/-- Attributes without room behind them. -/
def mT (n : Nat) (l : List T_AttrT) : Prop := 2 ≤ l.length ∧ l.length ≤ n ∧ ∀ a ∈ l, a.Vals ≠ [] ∧ a.Typ.length ≤ 50 ∧ a.Vals.length ≤ 3 ∧ ∀ v ∈ a.Vals, v.length ≤ 100
theorem mT.w {n : Nat} {l : List T_AttrT} (h : mT n l) : mL n (l.map T_AttrT.w) := by
  refine ⟨fun e => ?_, by rw [List.length_map]; exact h.2.1, fun a ha => ?_⟩
  · have h2 : l.length = 0 := by simpa using congrArg List.length e
    have := h.1
    omega
  · obtain ⟨x, hx, rfl⟩ := List.mem_map.1 ha
    obtain ⟨h1, h2, h3, h4⟩ := h.2.2 x hx
    exact ⟨h1, h2, by show x.Vals.length ≤ 4; omega, h4⟩
theorem mT.get {n : Nat} {l : List T_AttrT} (h : mT n l) : ∃ a, lgetO l 1 = some a ∧ a ∈ l := by
  have := h.1
  refine ⟨l[1], ?_, List.getElem_mem (by omega)⟩
  show lgetO l ((1 : Nat) : Int) = _
  rw [lgetO_nat]
  exact List.getElem?_eq_getElem (by omega)
theorem mT.app {n m : Nat} {l l' : List T_AttrT} (h : mT n l) (h' : l'.length ≤ m ∧ ∀ a ∈ l', a.Vals ≠ [] ∧ a.Typ.length ≤ 50 ∧ a.Vals.length ≤ 3 ∧ ∀ v ∈ a.Vals, v.length ≤ 100) : mT (n + m) (l ++ l') := by
  refine ⟨by have := h.1; simp; omega, by have := h.2.1; have := h'.1; simp; omega, fun a ha => ?_⟩
  rcases List.mem_append.1 ha with x | x
  · exact h.2.2 a x
  · exact h'.2 a x
section
variable {w : List Int} (hw : nums w) {n : Str} (hn : n.length ≤ 50) {q : T_EntryT} (hq : q.Dn.length ≤ 100)
include hw hn hq
theorem Make_k3_ok {l : List T_AttrT} (h : mT 15 l) : ∃ e, brooklaw4_Make_k3 w n q l = some e ∧ made e := by
  obtain ⟨x, h1, _⟩ := hw.get (i := 3) (by decide)
  obtain ⟨y, h2, hy⟩ := hw.get (i := 4) (by decide)
  obtain ⟨a, ha, hm⟩ := h.get
  obtain ⟨g1, g2, g3, g4⟩ := h.2.2 a hm
  have hl := h.2.1
  unfold brooklaw4_Make_k3
  rw [show lgetO w 3 = some x from h1, bS, remO_c (by decide), bS]
  cases x.tmod 4 == 0 with
  | true =>
    have t1 := Int.tmod_nonneg 9 hy.1
    have t2 := Int.tmod_lt_of_pos y (show (0 : Int) < 9 by decide)
    obtain ⟨s1, d1, l1⟩ := dig_ex (n := y.tmod 9) (by omega)
    obtain ⟨s2, d2, l2⟩ := dig_ex (n := y - 100) (by omega)
    rw [cT]
    simp only [ha, bS, show lgetO w 4 = some y from h2]
    rw [appO_eq (by simp; omega), bS, remO_c (by decide), bS, d1, bS, catO_eq (by simp; omega), bS, subO_eq (by omega), bS, d2, bS, appO_eq (by simp; omega), bS]
    refine Make_k4_ok hw hn hq (mL.app (n := 17) (m := 2) ((h.w.mono (by omega)).set (b := ⟨a.Typ, a.Vals ++ [k_posix]⟩) ⟨by simp, g2, ?_, fun v hv => ?_⟩ 1) ⟨by simp, fun b hb => ?_⟩)
    · show (a.Vals ++ [k_posix]).length ≤ 4
      simp; omega
    · rcases List.mem_append.1 hv with h | h
      · exact g4 v h
      · rw [List.mem_singleton.1 h]; decide
    · simp only [List.mem_cons, List.not_mem_nil, or_false] at hb
      rcases hb with rfl | rfl
      · exact mG1 (by decide) (by simp; omega)
      · exact mG1 (by decide) (by omega)
  | false =>
    have := h.w
    exact Make_k4_ok hw hn hq ⟨this.1, by have := this.2.1; omega, this.2.2⟩
theorem Make_k2_ok {l : List T_AttrT} (h : mT 14 l) : ∃ e, brooklaw4_Make_k2 w n q l = some e ∧ made e := by
  obtain ⟨x, h1, _⟩ := hw.get (i := 1) (by decide)
  obtain ⟨y, h2, hy⟩ := hw.get (i := 2) (by decide)
  have hl := h.2.1
  unfold brooklaw4_Make_k2
  rw [show lgetO w 1 = some x from h1, bS, remO_c (by decide), bS]
  cases x.tmod 3 == 1 with
  | true =>
    have t1 := Int.tmod_nonneg 9 hy.1
    have t2 := Int.tmod_lt_of_pos y (show (0 : Int) < 9 by decide)
    obtain ⟨s1, d1, l1⟩ := dig_ex (n := y.tmod 9) (by omega)
    rw [cT, show lgetO w 2 = some y from h2, bS, remO_c (by decide), bS, d1, bS, catO_eq (by simp; omega), bS, appO_eq (by simp; omega), bS]
    refine Make_k3_ok hw hn hq (h.app (m := 1) ⟨by simp, fun b hb => ?_⟩)
    rw [List.mem_singleton.1 hb]
    refine ⟨by simp, (show k_Description.length ≤ 50 by decide), by show 2 ≤ 3; decide, fun v hv => ?_⟩
    simp only [List.mem_cons, List.not_mem_nil, or_false] at hv
    rcases hv with rfl | rfl
    · simp; omega
    · decide
  | false => exact Make_k3_ok hw hn hq ⟨h.1, by omega, h.2.2⟩
end
theorem e_PersonT (n : Str) (h : n.length ≤ 1000) : s_brooklaw4_PersonT n = some ⟨k_x636e3d ++ n ++ k_x2c6f3d78, [⟨k_cn, [n]⟩, ⟨k_objectclass, [k_person]⟩, ⟨k_sn, [k_s]⟩]⟩ := by
  unfold s_brooklaw4_PersonT
  rw [catO_eq (by simp; omega)]
  simp only [bS]
  rw [catO_eq (by simp; omega)]
  rfl
theorem Make_k1_ok {w : List Int} (hw : nums w) : ∃ e, brooklaw4_Make_k1 w = some e ∧ made e := by
  obtain ⟨x, h1, hx⟩ := hw.get (i := 0) (by decide)
  obtain ⟨y, h2, _⟩ := hw.get (i := 1) (by decide)
  obtain ⟨z, h3, hz⟩ := hw.get (i := 2) (by decide)
  have t1 := Int.tmod_nonneg 6 hx.1
  have t2 := Int.tmod_lt_of_pos x (show (0 : Int) < 6 by decide)
  obtain ⟨s1, d1, l1⟩ := dig_ex (n := x.tmod 6) (by omega)
  obtain ⟨s2, d2, l2⟩ := dig_ex (n := z) (by omega)
  have hn : (k_n ++ s1).length ≤ 50 := by simp; omega
  have hT : ∀ b ∈ [(⟨k_cn, [k_n ++ s1]⟩ : T_AttrT), ⟨k_objectclass, [k_person]⟩, ⟨k_sn, [k_s]⟩], b.Vals ≠ [] ∧ b.Typ.length ≤ 50 ∧ b.Vals.length ≤ 3 ∧ ∀ v ∈ b.Vals, v.length ≤ 100 := fun b hb => by
    simp only [List.mem_cons, List.not_mem_nil, or_false] at hb
    rcases hb with rfl | rfl | rfl
    · exact ⟨by simp, (show k_cn.length ≤ 50 by decide), by show 1 ≤ 3; decide, fun v hv => by rw [List.mem_singleton.1 hv]; omega⟩
    · exact ⟨by simp, by decide, by show 1 ≤ 3; decide, fun v hv => by rw [List.mem_singleton.1 hv]; decide⟩
    · exact ⟨by simp, by decide, by show 1 ≤ 3; decide, fun v hv => by rw [List.mem_singleton.1 hv]; decide⟩
  have hd : (k_x636e3d ++ (k_n ++ s1) ++ k_x2c6f3d78).length ≤ 100 := by simp; omega
  unfold brooklaw4_Make_k1
  rw [show lgetO w 0 = some x from h1, bS, remO_c (by decide), bS, d1, bS, catO_eq (by simp; omega), bS, e_PersonT _ (by omega), bS, show lgetO w 1 = some y from h2, bS, remO_c (by decide), bS]
  cases y.tmod 3 == 0 with
  | true =>
    rw [cT, show lgetO ([(⟨k_cn, [k_n ++ s1]⟩ : T_AttrT), ⟨k_objectclass, [k_person]⟩, ⟨k_sn, [k_s]⟩]) 1 = some ⟨k_objectclass, [k_person]⟩ from rfl, bS, show lgetO w 2 = some z from h3, bS, d2, bS, catO_eq (by simp; omega), bS, appO_eq (by simp), bS]
    refine Make_k2_ok hw hn hd ⟨by simp, by simp, fun b hb => ?_⟩
    rcases List.mem_append.1 hb with h | h
    · exact set_all hT (b := ⟨k_objectclass, [k_inetOrgPerson]⟩) ⟨by simp, by decide, by show 1 ≤ 3; decide, fun v hv => by rw [List.mem_singleton.1 hv]; decide⟩ 1 b h
    · rw [List.mem_singleton.1 h]
      exact ⟨by simp, (show k_mail.length ≤ 50 by decide), by show 1 ≤ 3; decide, fun v hv => by rw [List.mem_singleton.1 hv]; simp; omega⟩
  | false => exact Make_k2_ok hw hn hd ⟨by simp, by simp, hT⟩
theorem Make_l1_ok (ns : Str) : ∀ (d i g : Nat) (w : List Int), i + d = 8 → d < g → nums w → ∃ e, brooklaw4_Make_l1 ns g (i : Int) w = some e ∧ made e := by
  intro d
  induction d with
  | zero =>
    intro i g w hi hg hw
    obtain ⟨g, rfl⟩ := pos_of hg
    simp only [brooklaw4_Make_l1]
    rw [decide_eq_false (show ¬ ((i : Int) < 8) by omega), cF, bS, cF]
    exact Make_k1_ok hw
  | succ d ih =>
    intro i g w hi hg hw
    obtain ⟨g, rfl⟩ := pos_of hg
    simp only [brooklaw4_Make_l1]
    rw [decide_eq_true (show ((i : Int) < 8) by omega), cT, bS]
    by_cases hl : i < ns.length
    · obtain ⟨x, hx, _⟩ := hw.get (i := i) (by omega)
      rw [decide_eq_true (show ((i : Int) < (ns.length : Int)) by omega), cT, lgetO_nat, List.getElem?_eq_getElem hl, bS, hx, bS, addO_eq (by omega), bS]
      have hc := ns[i].toNat_lt
      exact ih (i + 1) g _ (by omega) (by omega) (hw.set (by omega) _)
    · rw [decide_eq_false (show ¬ ((i : Int) < (ns.length : Int)) by omega), cF]
      exact Make_k1_ok hw
theorem Make_ok (ns : Str) : ∃ e, s_brooklaw4_Make ns = some e ∧ made e :=
  Make_l1_ok ns 8 0 FUEL _ rfl (fuel_gt (by omega)) ⟨by simp, fun x hx => by have := List.eq_of_mem_replicate hx; omega⟩

/-! The law. -/
theorem SchemaMade_l1_ok (a b : UInt8) (e0 e : T_Entry) (h0 : SmallE e0) {d n k : Nat} (he : mE d n k e) (hd : d ≤ 900) (hn : n ≤ 900) (hk : k ≤ 900) (hne : e.Attrs ≠ []) : ∀ (t p : List T_Attr) (g : Nat), e.Attrs = p ++ t → t.length < g → (∀ x ∈ p, x.Vals ≠ []) →
    brooklaw4_SchemaMade_l1 a b e0 e g (p.length : Int) = some true
  | [], p, g, hp, hg, hv => by
    obtain ⟨g, rfl⟩ := pos_of hg
    obtain ⟨e', h1, h2⟩ := turned_ok he ⟨hne, fun x hx => hv x (by rw [hp, List.append_nil] at hx; exact hx)⟩ hd hn hk (b.toNat : Int) (a.toNat + 1) (by have := a.toNat_lt; omega)
    have h1' : s_brooklaw4_turned e (b.toNat : Int) ((a.toNat : Int) + 1) = some e' := h1
    have ha := a.toNat_lt
    simp only [brooklaw4_SchemaMade_l1]
    rw [decide_eq_false (show ¬ ((p.length : Int) < (e.Attrs.length : Int)) by rw [hp]; simp), cF]
    unfold brooklaw4_SchemaMade_k1
    rw [addO_eq (by omega), bS, h1', bS, e_schema_Check h0, e_r1_Check h0, e_schema_Check (he.small (by omega) (by omega) (by omega)), e_r1_Check (he.small (by omega) (by omega) (by omega)), e_schema_Check (h2.small (by omega) (by omega) (by omega)), e_r1_Check (h2.small (by omega) (by omega) (by omega)), e_awake4]
    simp only [bS, beq_self_eq_true, cT]
  | x :: t, p, g, hp, hg, hv => by
    obtain ⟨g, rfl⟩ := pos_of hg
    have hn' := he.2.1
    have hx : lgetO e.Attrs (p.length : Int) = some x := by rw [hp]; exact lget_mid p x t
    have hpl : p.length + (t.length + 1) = e.Attrs.length := by rw [hp]; simp
    simp only [brooklaw4_SchemaMade_l1]
    rw [decide_eq_true (show ((p.length : Int) < (e.Attrs.length : Int)) by omega), cT, hx, bS]
    by_cases h : x.Vals = []
    · rw [show ((x.Vals.length : Int) == 0) = true by rw [h]; rfl, cT, e_schema_Check (he.small (by omega) (by omega) (by omega)), e_r1_Check (he.small (by omega) (by omega) (by omega)), e_awake4]
      simp only [bS, beq_self_eq_true, cT]
    · have hl : x.Vals.length ≠ 0 := fun e => h (List.length_eq_zero_iff.1 e)
      rw [show ((x.Vals.length : Int) == 0) = false by rw [beq_eq_false_iff_ne]; omega, cF, addO_eq (by omega), bS]
      have := SchemaMade_l1_ok a b e0 e h0 he hd hn hk hne t (p ++ [x]) g (by rw [hp]; simp) (by simp at hg; omega) (fun y hy => by
        rcases List.mem_append.1 hy with h' | h'
        · exact hv y h'
        · rw [List.mem_singleton.1 h']; exact h)
      rw [List.length_append] at this
      exact this
theorem made_law (ns : Str) (how which more : UInt8) : s_brooklaw4_SchemaMade ns how which more = some true := by
  obtain ⟨e, h1, h2, h3⟩ := Make_ok ns
  obtain ⟨e', g1, g2⟩ := turned_ok h2 h3 (by decide) (by decide) (by decide) (how.toNat : Int) which.toNat (by have := which.toNat_lt; omega)
  unfold s_brooklaw4_SchemaMade
  rw [h1, bS, g1, bS]
  by_cases h : e'.Attrs = []
  · rw [show ((e'.Attrs.length : Int) == 0) = true by rw [h]; rfl, cT, e_awake4]
    rfl
  · have hl : e'.Attrs.length ≠ 0 := fun e => h (List.length_eq_zero_iff.1 e)
    rw [show ((e'.Attrs.length : Int) == 0) = false by rw [beq_eq_false_iff_ne]; omega, cF]
    exact SchemaMade_l1_ok which more e e' (h2.small (by decide) (by decide) (by decide)) g2 (by decide) (by decide) (by decide) h e'.Attrs [] FUEL rfl (fuel_gt (by have := g2.2.1; omega)) (fun _ h => by cases h)
end Go.Ka
