/- One operation: what it hands back, as an abstract value, and what it leaves of the walk's own objects. -/
import Derived.Test.YtnbmjbpekblhbaaGreatDoorKaHeap
set_option linter.all false
namespace Go.Ka
open Go.RowKit
variable [Tab]

def ev (σ : Nat → V) : Operand → V
  | .tmp t => σ t
  | .const v => if v.oneCell' then .val v else .any
  | .global _ => .any
  | .func f => .fn f []

def Maps (a : Act) (F : Fz) (ν : Nu) (σ : Nat → V) : Prop := ∀ t, Rel F ν (a.tmps.getD t undef) (σ t)

theorem ev_rel {a : Act} {F : Fz} {ν : Nu} {σ : Nat → V} (h : Maps a F ν σ) (x : Operand) : Rel F ν (a.eval x) (ev σ x) := by
  cases x with
  | tmp t => exact h t
  | const v =>
    simp only [ev, Act.eval]
    split
    · rename_i hv; exact .val v hv
    · exact .any v
  | global g => exact .any _
  | func f => exact .fn f [] [] rfl (fun j v u hj => by simp at hj)

def Done (B : Gd) (F : Fz) (ν : Nu) (id : Nat) (o : Oper) (a : Act) (K : V → Hp → Prop) (a' : Act) (w' : World) : Prop :=
  ∃ v u M' F' ν', a' = a.put o.dst v ∧ K u M' ∧ Ok B F' ν' M' w' ∧ Fz.le F F' ∧ Nu.le ν ν' ∧ (∀ x, x ≠ id → ν' x = ν x) ∧ Rel F' ν' v u

def OpW (P : Program) (B : Gd) (o : Oper) (σ : Nat → V) (M : Hp) (id : Nat) (K : V → Hp → Prop) : Prop :=
  ∀ a w F ν, Ok B F ν M w → ν id = none → (∃ N, ∀ x, N ≤ x → ν x = none) → Maps a F ν σ → o.wp P a w (Done B F ν id o a K) (fun _ _ _ => False)

section
variable {P : Program} {B : Gd} {o : Oper} {σ : Nat → V} {M : Hp} {id : Nat} {K : V → Hp → Prop}

theorem opw_of {u : V} (hK : K u M) (h : ∀ a w F ν, Ok B F ν M w → Maps a F ν σ → ∃ v, (execOp a.eval o).run P w = .ok (.value v) w ∧ Rel F ν v u) : OpW P B o σ M id K := by
  intro a w F ν hok _ _ hm
  obtain ⟨v, hv, hr⟩ := h a w F ν hok hm
  unfold Oper.wp
  rw [hv]
  exact ⟨v, u, M, F, ν, rfl, hK, hok, Fz.le_refl _, Nu.le_refl _, fun _ _ => rfl, hr⟩

theorem opw_on {u : V} {M' : Hp} (hK : K u M') (h : ∀ a w F ν, Ok B F ν M w → ν id = none → Maps a F ν σ →
    ∃ r v w' F' ν', (execOp a.eval o).run P w = .ok r w' ∧ (r = .value v ∨ (r = .skip ∧ v = undef)) ∧ Ok B F' ν' M' w' ∧ Fz.le F F' ∧ Nu.le ν ν' ∧ (∀ x, x ≠ id → ν' x = ν x) ∧ Rel F' ν' v u) : OpW P B o σ M id K := by
  intro a w F ν hok hid _ hm
  obtain ⟨r, v, w', F', ν', hv, hr, h1, h2, h3, h4, h5⟩ := h a w F ν hok hid hm
  unfold Oper.wp
  rw [hv]
  rcases hr with rfl | ⟨rfl, rfl⟩
  · exact ⟨v, u, M', F', ν', rfl, hK, h1, h2, h3, h4, h5⟩
  · exact ⟨undef, u, M', F', ν', rfl, hK, h1, h2, h3, h4, h5⟩
end

/-! ### What a type's number says -/
def szOf (P : Program) (t : Nat) : Option Nat := (P.info? t).map (·.size)
def isAg (P : Program) (t : Nat) : Option Bool := match P.underlying t with
  | some (.struct _) | some (.array _ _) => some true
  | some _ => some false
  | none => none
def fOf (P : Program) (t f : Nat) : Option (Nat × Nat) := match P.underlying t with
  | some (.struct fs) => (fs[f]?).map fun x => (x.offset, x.type)
  | _ => none
def elOf (P : Program) (t : Nat) : Option Nat := match P.underlying t with
  | some (.slice e) => some e
  | _ => none

theorem isAg_run {P : Program} {t : Nat} {b : Bool} (h : isAg P t = some b) (w : World) : (Go.isAgg t).run P w = .ok b w := by
  unfold isAg at h
  cases hu : P.underlying t with
  | none => simp [hu] at h
  | some d =>
    simp only [hu] at h
    cases d <;> simp_all [isAgg, run_underlying hu]

theorem szOf_run {P : Program} {t n : Nat} (h : szOf P t = some n) (w : World) : (Go.sizeOf t).run P w = .ok n w := by
  unfold szOf at h
  cases hi : P.info? t with
  | none => simp [hi] at h
  | some i =>
    simp [hi] at h
    simp [sizeOf, typeInfo, hi, h]

theorem elOf_und {P : Program} {t e : Nat} (h : elOf P t = some e) : P.underlying t = some (.slice e) := by
  unfold elOf at h
  cases hu : P.underlying t with
  | none => simp [hu] at h
  | some d => cases d <;> simp_all

/-! ### Cells behind a pointer -/
def pcells (M : Hp) : V → Option (List V)
  | .iptr cs => some cs
  | .ptr id i off => (M id).bind fun o => (o.els[i]?).map (·.drop off)
  | _ => none

theorem pcells_at {B : Gd} {F : Fz} {ν : Nu} {M : Hp} {w : World} (hok : Ok B F ν M w) {v : Value} {u : V} (hr : Rel F ν v u) {cs : List V} (h : pcells M u = some cs) :
    ∃ b o, ∃ vals : Nat → Value, v = .pointer (some ⟨b, o, none⟩) ∧ ∀ (j : Nat) (x : V), cs[j]? = some x → x.cell = true ∧ w.cell? ⟨b, o + j, none⟩ = some (vals j) ∧ Rel F ν (vals j) x := by
  cases hr with
  | iptr b o cs' vals hce hf hr' =>
    simp only [pcells, Option.some.injEq] at h
    subst h
    exact ⟨b, o, vals, rfl, fun j x hj => ⟨hce j x hj, hok.fz _ _ _ (hf j x hj), hr' j x hj⟩⟩
  | ptr id i off k hk =>
    simp only [pcells] at h
    cases hm : M id with
    | none => simp [hm] at h
    | some ob =>
      simp only [hm, Option.bind_some] at h
      cases he : ob.els[i]? with
      | none => simp [he] at h
      | some el =>
        simp only [he, Option.map_some, Option.some.injEq] at h
        subst h
        obtain ⟨_, cur, ty, fr, h1, ⟨h2, gty⟩, h3, h4, h5, h6, h7⟩ := (hok.at hm hk).1.real he
        have hsome : ∀ j x, (el.drop off)[j]? = some x → x.cell = true ∧ ∃ y, w.cell? ⟨k.b, i * k.sz + off + j, none⟩ = some y ∧ Rel F ν y x := by
          intro j x hj
          rw [List.getElem?_drop] at hj
          obtain ⟨hc, y, hy, hry⟩ := h7 i el (off + j) x he hj
          exact ⟨hc, y, by rw [cell_at h1, h4, Nat.add_assoc]; exact hy, hry⟩
        refine ⟨k.b, i * k.sz + off, fun j => (w.cell? ⟨k.b, i * k.sz + off + j, none⟩).getD undef, rfl, fun j x hj => ?_⟩
        obtain ⟨hc, y, hy, hry⟩ := hsome j x hj
        simp only [hy, Option.getD_some]
        exact ⟨hc, trivial, hry⟩
  | _ => simp [pcells] at h

/-- What a load hands back. -/
def vload (ag : Bool) (n : Nat) (cs : List V) : Option V :=
  if ag then (if n ≤ cs.length then some (.agg (cs.take n)) else none) else cs.head?

theorem load_run {P : Program} {w : World} {F : Fz} {ν : Nu} {t n b o : Nat} {ag : Bool} {cs : List V} {vals : Nat → Value} {u : V} (ha : isAg P t = some ag) (hs : szOf P t = some n)
    (hc : ∀ (j : Nat) (x : V), cs[j]? = some x → x.cell = true ∧ w.cell? ⟨b, o + j, none⟩ = some (vals j) ∧ Rel F ν (vals j) x) (h : vload ag n cs = some u) :
    ∃ v, (loadVar t ⟨b, o, none⟩).run P w = .ok v w ∧ Rel F ν v u := by
  unfold vload at h
  cases ag with
  | true =>
    simp only [if_true] at h
    split at h
    · rename_i hn
      simp only [Option.some.injEq] at h
      subst h
      have hl := run_loadCells (P := P) (w := w) ⟨b, o, none⟩ n (fun j => vals j) (fun j hj => by
        rw [Addr.add_lit]
        exact (hc j cs[j] (List.getElem?_eq_getElem (by omega))).2.1)
      refine ⟨.agg ((List.range n).map vals).toArray, ?_, ?_⟩
      · simp [loadVar, isAg_run ha, szOf_run hs, hl]
      · refine .agg _ _ (by simp; omega) (fun j u hj => ?_) (fun j v u hj hu => ?_)
        · rw [List.getElem?_take] at hj
          split at hj
          · exact (hc j u hj).1
          · cases hj
        · rw [List.getElem?_take] at hu
          split at hu
          · rename_i hjn
            rw [List.getElem?_map, List.getElem?_range hjn] at hj
            simp at hj
            subst hj
            exact (hc j u hu).2.2
          · cases hu
    · cases h
  | false =>
    simp only [Bool.false_eq_true, if_false] at h
    cases cs with
    | nil => simp at h
    | cons x r =>
      simp at h
      subst h
      obtain ⟨_, h1, h2⟩ := hc 0 x rfl
      refine ⟨vals 0, ?_, h2⟩
      simp [loadVar, isAg_run ha, show w.cell? ⟨b, o, none⟩ = some (vals 0) from h1]

section
variable {P : Program} {B : Gd} {σ : Nat → V} {M : Hp} {id : Nat} {K : V → Hp → Prop} {dst : Option Nat} {ty : Nat} {pos : String} {after : Array Edge} {guard : Option (Nat × Bool)}

theorem w_move {x : Operand} (hK : K (ev σ x) M) : OpW P B ⟨dst, .move x, ty, pos, after, guard⟩ σ M id K :=
  opw_of hK fun a w F ν _ hm => ⟨a.eval x, by simp [execOp], ev_rel hm x⟩

theorem w_assign {x : Operand} (hK : K (ev σ x) M) : OpW P B ⟨dst, .assign x, ty, pos, after, guard⟩ σ M id K :=
  opw_of hK fun a w F ν _ hm => ⟨a.eval x, by simp [execOp], ev_rel hm x⟩

theorem rel_val {F : Fz} {ν : Nu} {v w : Value} (h : Rel F ν v (.val w)) : v = w := by cases h; rfl

theorem w_pick {c x y : Operand} {b : Bool} (hc : ev σ c = .val (.bool b)) (hK : K (if b then ev σ x else ev σ y) M) : OpW P B ⟨dst, .pick c x y, ty, pos, after, guard⟩ σ M id K := by
  refine opw_of hK fun a w F ν _ hm => ?_
  have h := ev_rel hm c
  rw [hc] at h
  have e := rel_val h
  refine ⟨if b then a.eval x else a.eval y, by cases b <;> simp [execOp, e, asBool], ?_⟩
  cases b
  · exact ev_rel hm y
  · exact ev_rel hm x

theorem w_load {t n : Nat} {x : Operand} {ag : Bool} {cs : List V} {u : V} (ha : isAg P t = some ag) (hs : szOf P t = some n) (hc : pcells M (ev σ x) = some cs) (hu : vload ag n cs = some u) (hK : K u M) :
    OpW P B ⟨dst, .load t x, ty, pos, after, guard⟩ σ M id K := by
  refine opw_of hK fun a w F ν hok hm => ?_
  obtain ⟨b, o, vals, hp, hcs⟩ := pcells_at hok (ev_rel hm x) hc
  obtain ⟨v, hv, hr⟩ := load_run (P := P) ha hs hcs hu
  exact ⟨v, by simp [execOp, hp, Instr.loadAt, Instr.sureAddr, hv], hr⟩

theorem w_extract {x : Operand} {k : Nat} {vs : List V} {u : V} (hx : ev σ x = .tup vs) (hu : vs[k]? = some u) (hK : K u M) : OpW P B ⟨dst, .extract x k, ty, pos, after, guard⟩ σ M id K := by
  refine opw_of hK fun a w F ν _ hm => ?_
  have h := ev_rel hm x
  rw [hx] at h
  generalize hv : a.eval x = v at h
  cases h with
  | tup ls _ hl hr =>
    obtain ⟨y, hy⟩ := get_of_length hl hu
    exact ⟨y, by simp [execOp, Instr.extract, hv, hy], hr _ _ _ hy hu⟩

end
end Go.Ka
