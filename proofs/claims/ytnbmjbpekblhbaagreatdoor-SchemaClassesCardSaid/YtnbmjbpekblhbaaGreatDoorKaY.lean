/- More steps, and what the printed proofs name. -/
import Derived.Test.YtnbmjbpekblhbaaGreatDoorKaX
set_option linter.all false
namespace Go.Ka
open Enc (enc)
open Go.RowKit
variable [Tab]

def FUEL : Nat := 4611686018427387904
theorem sX2 {x : Option (List (List V))} (u : List (List V)) (h : x = some u) : x = some u := h
theorem sX3 {x : Option (List V)} (u : List V) (h : x = some u) : x = some u := h
theorem eXL {x : List V} (u : List V) (h : x = u) : x = u := h
theorem lgO {α : Type} {l : List α} {i : Int} {x : α} (h : lgetO l i = some x) : l[i.toNat]? = some x := (lgetO_some h).2.1
theorem lgB {α : Type} {l : List α} {i : Int} {x : α} (h : lgetO l i = some x) : (decide (0 ≤ i) && decide (i < l.length)) = true := by
  obtain ⟨h0, _, h1⟩ := lgetO_some h
  simp only [Bool.and_eq_true, decide_eq_true_eq]
  omega
/-! What says more, read as saying less -/
def Wk (u u' : V) : Prop := ∀ F ν v, Rel F ν v u → Rel F ν v u'
theorem Wk.refl (u : V) : Wk u u := fun _ _ _ h => h
theorem Wk.nil : Wk (.val (.slice none 0 0)) (.arr []) := fun F ν v h => by
  cases h
  exact .arr none 0 0 0 [] (fun _ _ => default) rfl (Nat.le_refl _) (Nat.zero_le _) (fun i el h => by simp at h) (fun i el j u h => by simp at h) (fun h => absurd rfl h) (fun i el j u h => by simp at h)
inductive Wks : List V → List V → Prop
  | nil : Wks [] []
  | cons {u u' : V} {us us' : List V} (h : Wk u u') (hs : Wks us us') : Wks (u :: us) (u' :: us')
theorem wkn0 : Wks [] [] := .nil
theorem wkc {u u' : V} {us us' : List V} (h : Wk u u') (hs : Wks us us') : Wks (u :: us) (u' :: us') := .cons h hs
theorem Wks.refl : ∀ (us : List V), Wks us us
  | [] => .nil
  | u :: us => .cons (Wk.refl u) (Wks.refl us)
theorem Wks.len {us us' : List V} (h : Wks us us') : us.length = us'.length := by
  induction h with
  | nil => rfl
  | cons _ _ ih => simp [ih]
theorem Wks.at {us us' : List V} (h : Wks us us') : ∀ (j : Nat) (u' : V), us'[j]? = some u' → ∃ u, us[j]? = some u ∧ Wk u u' := by
  induction h with
  | nil => intro j u' hj; simp at hj
  | cons h hs ih =>
    intro j u' hj
    cases j with
    | zero => simp at hj; subst hj; exact ⟨_, rfl, h⟩
    | succ j => exact ih j u' (by simpa using hj)
theorem Wk.agg {us us' : List V} (h : Wks us us') (hc : (us'.all V.cell) = true) : Wk (.agg us) (.agg us') := fun F ν v hr => by
  cases hr with
  | agg vs _ hl hce hr =>
    refine .agg vs us' (hl.trans h.len) (fun j u hj => cellL hc u (List.mem_of_getElem? hj)) fun j v u hv hj => ?_
    obtain ⟨u0, h0, hw⟩ := h.at j u hj
    exact hw _ _ _ (hr j v u0 hv h0)
theorem Wk.tup {us us' : List V} (h : Wks us us') : Wk (.tup us) (.tup us') := fun F ν v hr => by
  cases hr with
  | tup vs _ hl hr =>
    refine .tup vs us' (hl.trans h.len) fun j v u hv hj => ?_
    obtain ⟨u0, h0, hw⟩ := h.at j u hj
    exact hw _ _ _ (hr j v u0 hv h0)
inductive Wkss : List (List V) → List (List V) → Prop
  | nil : Wkss [] []
  | cons {u u' : List V} {us us' : List (List V)} (h : Wks u u') (hs : Wkss us us') : Wkss (u :: us) (u' :: us')
theorem wkn : Wkss [] [] := .nil
theorem wkl {u u' : List V} {us us' : List (List V)} (h : Wks u u') (hs : Wkss us us') : Wkss (u :: us) (u' :: us') := .cons h hs
theorem Wkss.len {us us' : List (List V)} (h : Wkss us us') : us.length = us'.length := by
  induction h with
  | nil => rfl
  | cons _ _ ih => simp [ih]
theorem Wkss.at {us us' : List (List V)} (h : Wkss us us') : ∀ (j : Nat) (u' : List V), us'[j]? = some u' → ∃ u, us[j]? = some u ∧ Wks u u' := by
  induction h with
  | nil => intro j u' hj; simp at hj
  | cons h hs ih =>
    intro j u' hj
    cases j with
    | zero => simp at hj; subst hj; exact ⟨_, rfl, h⟩
    | succ j => exact ih j u' (by simpa using hj)
theorem Wk.arr {us us' : List (List V)} (h : Wkss us us') (hc : ∀ el ∈ us', ∀ u' ∈ el, u'.cell = true) : Wk (.arr us) (.arr us') := fun F ν v hr => by
  cases hr with
  | arr A n c sz _ vals hn hcn hm hsz hce hA hr =>
    have both : ∀ (i : Nat) (el : List V) (j : Nat) (u : V), us'[i]? = some el → el[j]? = some u → ∃ el0 u0, us[i]? = some el0 ∧ el0[j]? = some u0 ∧ Wk u0 u := fun i el j u hi hj => by
      obtain ⟨el0, h0, hw⟩ := h.at i el hi
      obtain ⟨u0, h1, hw⟩ := hw.at j u hj
      exact ⟨el0, u0, h0, h1, hw⟩
    refine .arr A n c sz us' vals (h.len ▸ hn) hcn hm (fun i el hi => ?_) (fun i el j u hi hj => hc el (List.mem_of_getElem? hi) u (List.mem_of_getElem? hj)) (fun h0 => ?_) (fun i el j u hi hj => ?_)
    · obtain ⟨el0, h0, hw⟩ := h.at i el hi
      rw [← hw.len]
      exact hsz i el0 h0
    · obtain ⟨b, o, hA1, hA2⟩ := hA h0
      refine ⟨b, o, hA1, fun i el j u hi hj => ?_⟩
      obtain ⟨el0, u0, g1, g2, _⟩ := both i el j u hi hj
      exact hA2 i el0 j u0 g1 g2
    · obtain ⟨el0, u0, g1, g2, hw⟩ := both i el j u hi hj
      exact hw _ _ _ (hr i el0 j u0 g1 g2)

theorem Yl.wk {P : Program} {o : Oper} {σ : Nat → V} {M : Hp} {id : Nat} {u u' : V} {es : Eff} (h : Yl P o σ M id u es) (hw : Wk u u') : Yl P o σ M id u' es := fun B M' hs a w F ν h1 h2 h3 h4 => by
  refine Oper.wp_mono ?_ (wp_of_false (h B M' hs a w F ν h1 h2 h3 h4))
  rintro a' w' ⟨v, u1, M1, F', ν', rfl, ⟨rfl, rfl⟩, g1, g2, g3, g4, g5⟩
  exact ⟨v, u', _, F', ν', rfl, ⟨rfl, rfl⟩, g1, g2, g3, g4, hw _ _ _ g5⟩

theorem Pu.args {P : Program} {f : Nat} {us us' : List V} {u : V} (h : Pu P f us' u) (hw : Wks us us') (hn : ∀ x ∈ us, NF x) : Pu P f us u :=
  ⟨hn, h.hu, fun w F ν args hok hnx hl hr => h.run w F ν args hok hnx (hl.trans hw.len) fun j v u' hv hu => by
    obtain ⟨u0, h0, hw⟩ := hw.at j u' hu
    exact hw _ _ _ (hr j v u0 hv h0)⟩

theorem pln : ∀ u ∈ ([] : List V), Pl u := fun _ h => by cases h
theorem plc {a : V} {l : List V} (h : Pl a) (r : ∀ u ∈ l, Pl u) : ∀ u ∈ a :: l, Pl u := fun u hu => by
  rcases List.mem_cons.1 hu with rfl | hu
  · exact h
  · exact r u hu
section
variable {i : Nat} {o : Ob}
theorem fzn : Fzs i o [] [] := .nil
theorem fzc {u u' : V} {us us' : List V} (h : Fz2 i o u u') (hs : Fzs i o us us') : Fzs i o (u :: us) (u' :: us') := .cons h hs
theorem fzO {α : Type} [Enc α] {l : List α} : Fz2 i (ob l) (.own i 0 l.length) (ar l) := by
  have h : Fz2 i (ob l) (.own i 0 l.length) (.arr (((ob l).els.drop 0).take l.length)) := Fz2.own (by simp)
  have e : ((ob l).els.drop 0).take l.length = l.map enc := by
    rw [List.drop_zero, List.take_of_length_le (by simp)]
  rw [e] at h
  exact h
end

section
variable {G : Rg} {os : List Oper} {i : Nat} {σ σ' : Nat → V} {M M' : Hp} {u : V} {ds : List Yd}
variable {d : Option Nat} {ty : Nat} {pos : String} {aft : Array Edge} {g : Option (Nat × Bool)} {x y : Operand} {t : Nat}
variable {cal : Operand} {args : Array Operand} {ts : Array TypeId} {f : Nat} {caps us us' : List V}

theorem vlO' {α : Type} [Enc α] {sz id : Nat} {M : Hp} {l : List α} (hz : sz = Enc.sz α) (hx : ev σ x = .own id 0 l.length) (hm : M id = some (ob l)) : vels M sz (ev σ x) = some (l.map enc) := by rw [hx]; exact vels_ob hz hm
theorem vlN' {α : Type} [Enc α] {sz : Nat} {M : Hp} (hx : ev σ x = nl) : vels M sz (ev σ x) = some (([] : List α).map enc) := by rw [hx]; rfl
theorem vlA' {α : Type} [Enc α] {sz : Nat} {M : Hp} {l : List α} (hz : sz = Enc.sz α) (hx : ev σ x = ar l) : vels M sz (ev σ x) = some (l.map enc) := by rw [hx]; exact vels_ar hz
theorem x_bsA {α : Type} [Enc α] (l : List α) {parts : Array (Nat × Operand)} {n sz b : Nat} (E : El G.P t sz b) (h : vparts sz 0 (evs σ parts.toList) = some (l.map enc)) (hn : (Nat.beq parts.toList.length n && Nat.ble (n * sz) 16777216 && Nat.ble n 16777216) = true) (c : Ck G ⟨d, .buildSlice t n parts, ty, pos, aft, g⟩ i σ []) (r : Lx G os (i + 1) (upd σ d (ar l)) M ds σ' M') : Lx G (⟨d, .buildSlice t n parts, ty, pos, aft, g⟩ :: os) i σ M (⟨ar l, []⟩ :: ds) σ' M' := x_bs E h hn c r
theorem x_bsW {α : Type} [Enc α] (l : List α) {parts : Array (Nat × Operand)} {n sz b : Nat} {els : List (List V)} (E : El G.P t sz b) (h : vparts sz 0 (evs σ parts.toList) = some els) (hn : (Nat.beq parts.toList.length n && Nat.ble (n * sz) 16777216 && Nat.ble n 16777216) = true) (hw : Wkss els (l.map enc)) (c : Ck G ⟨d, .buildSlice t n parts, ty, pos, aft, g⟩ i σ []) (r : Lx G os (i + 1) (upd σ d (ar l)) M ds σ' M') : Lx G (⟨d, .buildSlice t n parts, ty, pos, aft, g⟩ :: os) i σ M (⟨ar l, []⟩ :: ds) σ' M' := by
  obtain ⟨e, zs, h1, h2, h3, h4, h5, _⟩ := E
  simp only [Bool.and_eq_true, Nat.beq_eq, Nat.ble_eq] at hn
  refine lx_on c (Yl.wk (u := .arr els) (fun _ _ _ => w_buildSlice h1 h2 h4 h5 hn.1.1 (by
    have : evs (see G.ops ⟨d, .buildSlice t n parts, ty, pos, aft, g⟩ σ) parts.toList = evs σ parts.toList := List.map_congr_left fun p hp => by
      rw [ev_see (by simp only [Op.operands, List.mem_map]; exact ⟨p, hp, rfl⟩)]
    rw [this]
    exact h) hn.1.2 hn.2 ⟨rfl, rfl⟩) (Wk.arr hw fun el hel u hu => ?_)) r
  obtain ⟨a, _, rfl⟩ := List.mem_map.1 hel
  exact Enc.cell a u hu
theorem x_puW (hc : ev σ cal = .fn f caps) (hp : plain G.P f = true) (h : Pu G.P f us' u) (he : args.toList.map (ev σ) ++ caps = us) (hw : Wks us us') (hn : ∀ x ∈ us, NF x) (c : Ck G ⟨d, .call ⟨.value cal, args, ts⟩, ty, pos, aft, g⟩ i σ []) (r : Lx G os (i + 1) (upd σ d u) M ds σ' M') : Lx G (⟨d, .call ⟨.value cal, args, ts⟩, ty, pos, aft, g⟩ :: os) i σ M (⟨u, []⟩ :: ds) σ' M' :=
  x_pu hc hp (h.args hw hn) he c r
theorem w_nilCheck {P : Program} {B : Gd} {id : Nat} {K : V → Hp → Prop} (hx : (∃ cs, ev σ x = .iptr cs) ∨ ∃ a b e, ev σ x = .ptr a b e) (hK : K (ev σ x) M) : OpW P B ⟨d, .nilCheck x, ty, pos, aft, g⟩ σ M id K := by
  refine opw_of hK fun a w F ν _ hm => ?_
  have hr := ev_rel hm x
  refine ⟨a.eval x, ?_, hr⟩
  rcases hx with ⟨cs, h⟩ | ⟨q1, q2, q3, h⟩ <;> rw [h] at hr <;> generalize hv : a.eval x = v at hr <;> cases hr <;> simp [execOp, hv]
theorem x_nc (hx : ev σ x = u) (hp : (∃ cs, u = .iptr cs) ∨ ∃ a b e, u = .ptr a b e) (c : Ck G ⟨d, .nilCheck x, ty, pos, aft, g⟩ i σ []) (r : Lx G os (i + 1) (upd σ d u) M ds σ' M') : Lx G (⟨d, .nilCheck x, ty, pos, aft, g⟩ :: os) i σ M (⟨u, []⟩ :: ds) σ' M' := by
  have e := (ev_see (ops := G.ops) (o := ⟨d, .nilCheck x, ty, pos, aft, g⟩) (σ := σ) (x := x) (by simp [Op.operands])).trans hx
  exact lx_on c (fun _ _ _ => w_nilCheck (by rw [e]; exact hp) ⟨e, rfl⟩) r
theorem x_cvII {t' : Nat} {n : Int} (U : (G.P.underlying t).isSome = true) (W : wordOf G.P t' = some .i64) (hx : ev σ x = i64 n) (hn : inR n = true) (c : Ck G ⟨d, .convert t t' x, ty, pos, aft, g⟩ i σ []) (r : Lx G os (i + 1) (upd σ d (i64 n)) M ds σ' M') : Lx G (⟨d, .convert t t' x, ty, pos, aft, g⟩ :: os) i σ M (⟨i64 n, []⟩ :: ds) σ' M' :=
  lx_on c (fun _ _ _ => w_convInt U W ((ev_see (by simp [Op.operands])).trans hx) ⟨by have := inR_iff.1 hn; rw [wrap_i64 this.1 this.2], rfl⟩) r
end
end Go.Ka
