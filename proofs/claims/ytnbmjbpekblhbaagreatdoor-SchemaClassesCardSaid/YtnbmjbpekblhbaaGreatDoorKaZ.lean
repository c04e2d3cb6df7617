/- Errors that are there or not; truths compared; the library's contracts of plain values. -/
import Derived.Test.YtnbmjbpekblhbaaGreatDoorKaNew
set_option linter.all false
namespace Go.Ka
open Go.RowKit
variable [Tab]

/-- An error: there is one, or none. -/
def er (b : Bool) : V := bif b then .nz else .val .nilIface
theorem nfr {b : Bool} : NF (er b) := by cases b <;> intro y hy <;> cases hy
theorem tre {ρ : Nat → Nat} {D Z : List Nat} {b : Bool} : Tr ρ D Z (er b) (er b) := Tr.nf nfr
theorem Pl.er {b : Bool} : Pl (er b) := by cases b; exact Pl.val; exact Pl.nz
section
variable {P : Program} {B : Gd} {σ σ' : Nat → V} {M M' : Hp} {id : Nat} {K : V → Hp → Prop} {dst : Option Nat} {ty : Nat} {pos : String} {after : Array Edge} {guard : Option (Nat × Bool)}
theorem w_nebool {t t' : Nat} {x y : Operand} {a b : Bool} (ht : P.underlying t = some .bool) (hx : ev σ x = .val (.bool a)) (hy : ev σ y = .val (.bool b)) (hK : K (.val (.bool (!(a == b)))) M) :
    OpW P B ⟨dst, .binOp .neq t x y t', ty, pos, after, guard⟩ σ M id K := by
  refine opw_of hK fun ac w F ν _ hm => ?_
  have h1 := ev_rel hm x
  have h2 := ev_rel hm y
  rw [hx] at h1
  rw [hy] at h2
  have e1 := rel_val h1
  have e2 := rel_val h2
  exact ⟨_, by simp [execOp, e1, e2, eqGuard_at_bool, run_neq_bool w t a b ht], .val _ rfl⟩
theorem w_en {op : BinOp} {t t' : Nat} {x : Operand} {b c : Bool} (ht : P.underlying t = some (.interface (P.methodsAt t))) (hx : ev σ x = er b) (ho : (op = .eql ∧ c = !b) ∨ (op = .neq ∧ c = b)) (hK : K (bo c) M) :
    OpW P B ⟨dst, .binOp op t x (.const .nilIface) t', ty, pos, after, guard⟩ σ M id K := by
  refine opw_of hK fun ac w F ν _ hm => ?_
  have h1 := ev_rel hm x
  rw [hx] at h1
  have e2 : ac.eval (.const .nilIface) = .nilIface := rfl
  cases b with
  | false =>
    have e1 : ac.eval x = .nilIface := rel_val h1
    rcases ho with ⟨rfl, rfl⟩ | ⟨rfl, rfl⟩
    · exact ⟨_, by simp [execOp, e1, e2, eqGuard, run_eql_nil_nil w t ht], .val _ rfl⟩
    · exact ⟨_, by simp [execOp, e1, e2, eqGuard, run_neq_nil_nil w t ht], .val _ rfl⟩
  | true =>
    generalize hv : ac.eval x = v at h1
    cases h1 with
    | nz u z =>
      rcases ho with ⟨rfl, rfl⟩ | ⟨rfl, rfl⟩
      · exact ⟨_, by simp [execOp, hv, e2, eqGuard, run_eql_held_nil w t u z ht], .val _ rfl⟩
      · exact ⟨_, by simp [execOp, hv, e2, eqGuard, run_neq_held_nil w t u z ht], .val _ rfl⟩
end
section
variable {G : Rg} {os : List Oper} {i : Nat} {σ σ' : Nat → V} {M M' : Hp} {u : V} {ds : List Yd}
variable {d : Option Nat} {ty : Nat} {pos : String} {aft : Array Edge} {g : Option (Nat × Bool)} {x y : Operand} {t : Nat}
theorem x_be {t' : Nat} {a b : Bool} (Q : G.P.underlying t = some .bool) (hx : ev σ x = bo a) (hy : ev σ y = bo b) (c : Ck G ⟨d, .binOp .eql t x y t', ty, pos, aft, g⟩ i σ []) (r : Lx G os (i + 1) (upd σ d (bo (a == b))) M ds σ' M') : Lx G (⟨d, .binOp .eql t x y t', ty, pos, aft, g⟩ :: os) i σ M (⟨bo (a == b), []⟩ :: ds) σ' M' :=
  lx_on c (fun _ _ _ => w_eqbool Q ((ev_see (by simp [Op.operands])).trans hx) ((ev_see (by simp [Op.operands])).trans hy) ⟨rfl, rfl⟩) r
theorem x_bn {t' : Nat} {a b : Bool} (Q : G.P.underlying t = some .bool) (hx : ev σ x = bo a) (hy : ev σ y = bo b) (c : Ck G ⟨d, .binOp .neq t x y t', ty, pos, aft, g⟩ i σ []) (r : Lx G os (i + 1) (upd σ d (bo (!(a == b)))) M ds σ' M') : Lx G (⟨d, .binOp .neq t x y t', ty, pos, aft, g⟩ :: os) i σ M (⟨bo (!(a == b)), []⟩ :: ds) σ' M' :=
  lx_on c (fun _ _ _ => w_nebool Q ((ev_see (by simp [Op.operands])).trans hx) ((ev_see (by simp [Op.operands])).trans hy) ⟨rfl, rfl⟩) r
theorem x_ee {t' : Nat} {b : Bool} (Q : G.P.underlying t = some (.interface (G.P.methodsAt t))) (hx : ev σ x = er b) (c : Ck G ⟨d, .binOp .eql t x (.const .nilIface) t', ty, pos, aft, g⟩ i σ []) (r : Lx G os (i + 1) (upd σ d (bo (!b))) M ds σ' M') : Lx G (⟨d, .binOp .eql t x (.const .nilIface) t', ty, pos, aft, g⟩ :: os) i σ M (⟨bo (!b), []⟩ :: ds) σ' M' :=
  lx_on c (fun _ _ _ => w_en Q ((ev_see (by simp [Op.operands])).trans hx) (.inl ⟨rfl, rfl⟩) ⟨rfl, rfl⟩) r
theorem x_en {t' : Nat} {b : Bool} (Q : G.P.underlying t = some (.interface (G.P.methodsAt t))) (hx : ev σ x = er b) (c : Ck G ⟨d, .binOp .neq t x (.const .nilIface) t', ty, pos, aft, g⟩ i σ []) (r : Lx G os (i + 1) (upd σ d (bo b)) M ds σ' M') : Lx G (⟨d, .binOp .neq t x (.const .nilIface) t', ty, pos, aft, g⟩ :: os) i σ M (⟨bo b, []⟩ :: ds) σ' M' :=
  lx_on c (fun _ _ _ => w_en Q ((ev_see (by simp [Op.operands])).trans hx) (.inr ⟨rfl, rfl⟩) ⟨rfl, rfl⟩) r
end

/-- The tables are there. -/
def TabOn (w : World) : Prop := (∀ b o v, Tab.T b o = some v → w.cell? ⟨b, o, none⟩ = some v) ∧ ∀ b o, Tab.H b = some o → w.heap[b]? = some o
theorem Ok.tabOn {B : Gd} {F : Fz} {ν : Nu} {M : Hp} {w : World} (h : Ok B F ν M w) : TabOn w := ⟨fun b o v hv => h.fz _ _ _ (h.tab.1 _ _ _ hv), h.tab.2⟩
theorem rel_vals {F : Fz} {ν : Nu} {args vs : List Value} (hl : args.length = (vs.map V.val).length) (hr : ∀ (j : Nat) (v : Value) (u : V), args[j]? = some v → (vs.map V.val)[j]? = some u → Rel F ν v u) : args = vs := by
  refine List.ext_getElem (by simpa using hl) fun j h1 h2 => ?_
  exact rel_val (hr j args[j] (.val vs[j]) (List.getElem?_eq_getElem h1) (by simp [h2]))
/-- Values in, a value out; the heap may have grown. -/
theorem pu_val {P : Program} {f : Nat} {vs : List Value} {u : V} (hu : NF u) (hp : Pl u) (h : ∀ w, TabOn w → Calls P f vs.toArray w fun e w' => ∃ v, e = .returned v ∧ Rel (fun _ _ => none) ν0 v u ∧ Below w.heap.size w w') :
    Pu P f (vs.map V.val) u := ⟨fun x hx => by obtain ⟨v, _, rfl⟩ := List.mem_map.1 hx; exact nfv, hu, fun w F ν args hok hid hl hr => by
  have e := rel_vals hl hr
  subst e
  refine (h w hok.tabOn).mono fun e w' hx => ?_
  obtain ⟨v, h1, h2, h3⟩ := hx
  exact ⟨v, F, ν, h1, hok.on h3.os h3.tape h3.output h3.size h3.block, Fz.le_refl _, fun _ _ => rfl, hp _ _ _ _ _ h2⟩⟩
theorem below_drewN (w : World) (n : Nat) : Below w.heap.size w (w.drewN n) := ⟨rfl, rfl, rfl, Nat.le_refl _, fun _ _ => rfl⟩
theorem below_self (w : World) : Below w.heap.size w w := ⟨rfl, rfl, rfl, Nat.le_refl _, fun _ _ => rfl⟩
theorem below_drew (w : World) : Below w.heap.size w w.drew := ⟨rfl, rfl, rfl, Nat.le_refl _, fun _ _ => rfl⟩
theorem lgBE {α : Type} {l : List α} {j : Int} {a : α} {n : Nat} (h : lgetO l j = some a) (e : l.length = n) : (decide (0 ≤ j) && decide (j < n)) = true := e ▸ lgB h
end Go.Ka
