/- Values under other names; a call's contract, and what a call does in its caller's state. -/
import Derived.Test.YtnbmjbpekblhbaaGreatDoorKaAny
set_option linter.all false
namespace Go.Ka
open Go.RowKit
variable [Tab]

/-- Names that are there already. -/
def Old (n : Nat) (u : V) : Prop := ∀ y, u.names y → y < n
def OldO (n : Nat) (o : Ob) : Prop := ∀ el ∈ o.els, ∀ u ∈ el, Old n u
/-- It names nothing. -/
def NF (u : V) : Prop := ∀ y, ¬ u.names y
theorem NF.old {u : V} (h : NF u) (n : Nat) : Old n u := fun y hy => absurd hy (h y)
def ν0 : Nu := fun _ => none
theorem Rel.nf {F : Fz} {ν ν' : Nu} {v : Value} {u : V} (h : Rel F ν v u) (hu : NF u) : Rel F ν' v u := h.less fun id hid => absurd hid (hu id)

mutual
def ren (ρ : Nat → Nat) : V → V
  | .any => .any
  | .val v => .val v
  | .arr l => .arr (renll ρ l)
  | .iptr cs => .iptr (renl ρ cs)
  | .agg cs => .agg (renl ρ cs)
  | .tup vs => .tup (renl ρ vs)
  | .fn f caps => .fn f (renl ρ caps)
  | .own j a n => .own (ρ j) a n
  | .ptr j k off => .ptr (ρ j) k off
  | .nz => .nz
  | .sp j T => .sp (ρ j) T
  | .ps j T => .ps (ρ j) T
  | .ub => .ub
  | .pp => .pp
  | .owt j n T => .owt (ρ j) n T
def renl (ρ : Nat → Nat) : List V → List V
  | [] => []
  | u :: r => ren ρ u :: renl ρ r
def renll (ρ : Nat → Nat) : List (List V) → List (List V)
  | [] => []
  | u :: r => renl ρ u :: renll ρ r
end
theorem renl_map (ρ : Nat → Nat) (l : List V) : renl ρ l = l.map (ren ρ) := by
  induction l with
  | nil => simp [renl]
  | cons u r ih => simp [renl, ih]
theorem renll_map (ρ : Nat → Nat) (l : List (List V)) : renll ρ l = l.map (List.map (ren ρ)) := by
  induction l with
  | nil => simp [renll]
  | cons u r ih => simp [renll, ih, renl_map]
theorem ren_cell (ρ : Nat → Nat) (u : V) : (ren ρ u).cell = u.cell := by cases u <;> simp [ren, V.cell]
theorem map_inv {α β : Type} {f : α → β} {l : List α} {j : Nat} {y : β} (h : (l.map f)[j]? = some y) : ∃ x, l[j]? = some x ∧ f x = y := by
  rw [List.getElem?_map] at h
  cases hx : l[j]? with
  | none => simp [hx] at h
  | some x => simp [hx] at h; exact ⟨x, rfl, h⟩

/-- New names for old ones. -/
theorem Rel.toRen {F : Fz} {ν ν' : Nu} {ρ : Nat → Nat} {v : Value} {u : V} (h : Rel F ν v u) (hs : ∀ y, u.names y → ν' (ρ y) = ν y) : Rel F ν' v (ren ρ u) := by
  induction h with
  | any v => simp only [Go.Ka.ren]; exact .any v
  | val v h => simp only [Go.Ka.ren]; exact .val v h
  | nz t v => simp only [Go.Ka.ren]; exact .nz t v
  | sp id T k p hk hT hp => simp only [Go.Ka.ren]; exact .sp (ρ id) T k p ((hs id .sp).trans hk) hT hp
  | ps id T k hk hT => simp only [Go.Ka.ren]; exact .ps (ρ id) T k ((hs id .ps).trans hk) hT
  | ub b => simp only [Go.Ka.ren]; exact .ub b
  | pp p => simp only [Go.Ka.ren]; exact .pp p
  | owt id n c T A k hk hc hm hA hB hT => simp only [Go.Ka.ren]; exact .owt (ρ id) n c T A k ((hs id .owt).trans hk) hc hm hA hB hT
  | arr A n c sz els vals hn hc hm hsz hce hA _ ih =>
    simp only [Go.Ka.ren, renll_map]
    refine .arr A n c sz _ vals (by simpa using hn) hc hm (fun x el hx => ?_) (fun x el j u hx hj => ?_) (fun h0 => ?_) (fun x el j u hx hj => ?_)
    · obtain ⟨el0, h0, rfl⟩ := map_inv hx
      rw [List.length_map]
      exact hsz x el0 h0
    · obtain ⟨el0, h0, rfl⟩ := map_inv hx
      obtain ⟨u0, h1, rfl⟩ := map_inv hj
      rw [ren_cell]
      exact hce x el0 j u0 h0 h1
    · obtain ⟨b, off, hA, h⟩ := hA h0
      refine ⟨b, off, hA, fun x el j u hx hj => ?_⟩
      obtain ⟨el0, h0, rfl⟩ := map_inv hx
      obtain ⟨u0, h1, rfl⟩ := map_inv hj
      exact h x el0 j u0 h0 h1
    · obtain ⟨el0, h0, rfl⟩ := map_inv hx
      obtain ⟨u0, h1, rfl⟩ := map_inv hj
      exact ih x el0 j u0 h0 h1 fun y hy => hs y (.arr h0 h1 hy)
  | iptr b off cs vals hce h _ ih =>
    simp only [Go.Ka.ren, renl_map]
    refine .iptr b off _ vals (fun j u hj => ?_) (fun j u hj => ?_) (fun j u hj => ?_)
    · obtain ⟨u0, h1, rfl⟩ := map_inv hj; rw [ren_cell]; exact hce j u0 h1
    · obtain ⟨u0, h1, rfl⟩ := map_inv hj; exact h j u0 h1
    · obtain ⟨u0, h1, rfl⟩ := map_inv hj; exact ih j u0 h1 fun y hy => hs y (.iptr h1 hy)
  | agg vs cs hl hce _ ih =>
    simp only [Go.Ka.ren, renl_map]
    refine .agg vs _ (by simpa using hl) (fun j u hj => ?_) (fun j v u hv hj => ?_)
    · obtain ⟨u0, h1, rfl⟩ := map_inv hj; rw [ren_cell]; exact hce j u0 h1
    · obtain ⟨u0, h1, rfl⟩ := map_inv hj; exact ih j v u0 hv h1 fun y hy => hs y (.agg h1 hy)
  | tup vs cs hl _ ih =>
    simp only [Go.Ka.ren, renl_map]
    refine .tup vs _ (by simpa using hl) (fun j v u hv hj => ?_)
    obtain ⟨u0, h1, rfl⟩ := map_inv hj; exact ih j v u0 hv h1 fun y hy => hs y (.tup h1 hy)
  | fn f vs cs hl _ ih =>
    simp only [Go.Ka.ren, renl_map]
    refine .fn f vs _ (by simpa using hl) (fun j v u hv hj => ?_)
    obtain ⟨u0, h1, rfl⟩ := map_inv hj; exact ih j v u0 hv h1 fun y hy => hs y (.fn h1 hy)
  | own id a n c A k hk hc hm hA hB => simp only [Go.Ka.ren]; exact .own (ρ id) a n c A k ((hs id .own).trans hk) hc hm hA hB
  | ptr id i off k hk => simp only [Go.Ka.ren]; exact .ptr (ρ id) i off k ((hs id .ptr).trans hk)

/-- Old names for new ones. -/
theorem Rel.unren {F : Fz} {ν ν' : Nu} {ρ : Nat → Nat} {v : Value} {r : V} (h : Rel F ν v r) : ∀ u : V, Go.Ka.ren ρ u = r → (∀ y, u.names y → ν' y = ν (ρ y)) → Rel F ν' v u := by
  induction h with
  | any v => intro u e hs; cases u <;> simp [Go.Ka.ren] at e; exact .any v
  | val v h => intro u e hs; cases u <;> simp [Go.Ka.ren] at e; subst e; exact .val _ h
  | nz t v => intro u e hs; cases u <;> simp [Go.Ka.ren] at e; exact .nz t v
  | ps id T k hk hT =>
    intro u e hs
    cases u <;> simp only [Go.Ka.ren, V.ps.injEq, reduceCtorEq] at e
    rename_i id0 T0
    obtain ⟨rfl, rfl⟩ := e
    exact .ps id0 _ k ((hs id0 .ps).trans hk) hT
  | ub b => intro u e hs; cases u <;> simp [Go.Ka.ren] at e; exact .ub b
  | pp p => intro u e hs; cases u <;> simp [Go.Ka.ren] at e; exact .pp p
  | owt id n c T A k hk hc hm hA hB hT =>
    intro u e hs
    cases u <;> simp only [Go.Ka.ren, V.owt.injEq, reduceCtorEq] at e
    rename_i id0 n0 T0
    obtain ⟨rfl, rfl, rfl⟩ := e
    exact .owt id0 _ c _ A k ((hs id0 .owt).trans hk) hc hm hA hB hT
  | sp id T k p hk hT hp =>
    intro u e hs
    cases u <;> simp only [Go.Ka.ren, V.sp.injEq, reduceCtorEq] at e
    rename_i id0 T0
    obtain ⟨rfl, rfl⟩ := e
    exact .sp id0 _ k p ((hs id0 .sp).trans hk) hT hp
  | arr A n c sz els vals hn hc hm hsz hce hA _ ih =>
    intro u e hs
    cases u <;> simp only [Go.Ka.ren, V.arr.injEq, reduceCtorEq] at e
    rename_i els0
    rw [renll_map] at e
    subst e
    have at1 : ∀ {x : Nat} {el : List V}, els0[x]? = some el → (els0.map (List.map (Go.Ka.ren ρ)))[x]? = some (el.map (Go.Ka.ren ρ)) := fun hx => by rw [List.getElem?_map, hx]; rfl
    have at2 : ∀ {el : List V} {j : Nat} {u : V}, el[j]? = some u → (el.map (Go.Ka.ren ρ))[j]? = some (Go.Ka.ren ρ u) := fun hj => by rw [List.getElem?_map, hj]; rfl
    refine .arr A n c sz _ vals (by simpa using hn) hc hm (fun x el hx => ?_) (fun x el j u hx hj => ?_) (fun h0 => ?_) (fun x el j u hx hj => ?_)
    · have := hsz x _ (at1 hx); simpa using this
    · have := hce x _ j _ (at1 hx) (at2 hj); rwa [ren_cell] at this
    · obtain ⟨b, off, hA, h⟩ := hA h0
      exact ⟨b, off, hA, fun x el j u hx hj => h x _ j _ (at1 hx) (at2 hj)⟩
    · exact ih x _ j _ (at1 hx) (at2 hj) u rfl fun y hy => hs y (.arr hx hj hy)
  | iptr b off cs vals hce h _ ih =>
    intro u e hs
    cases u <;> simp only [Go.Ka.ren, V.iptr.injEq, reduceCtorEq] at e
    rename_i cs0
    rw [renl_map] at e
    subst e
    have at2 : ∀ {el : List V} {j : Nat} {u : V}, el[j]? = some u → (el.map (Go.Ka.ren ρ))[j]? = some (Go.Ka.ren ρ u) := fun hj => by rw [List.getElem?_map, hj]; rfl
    exact .iptr b off _ vals (fun j u hj => by have := hce j _ (at2 hj); rwa [ren_cell] at this) (fun j u hj => h j _ (at2 hj)) (fun j u hj => ih j _ (at2 hj) u rfl fun y hy => hs y (.iptr hj hy))
  | agg vs cs hl hce _ ih =>
    intro u e hs
    cases u <;> simp only [Go.Ka.ren, V.agg.injEq, reduceCtorEq] at e
    rename_i cs0
    rw [renl_map] at e
    subst e
    have at2 : ∀ {el : List V} {j : Nat} {u : V}, el[j]? = some u → (el.map (Go.Ka.ren ρ))[j]? = some (Go.Ka.ren ρ u) := fun hj => by rw [List.getElem?_map, hj]; rfl
    exact .agg vs _ (by simpa using hl) (fun j u hj => by have := hce j _ (at2 hj); rwa [ren_cell] at this) (fun j v u hv hj => ih j v _ hv (at2 hj) u rfl fun y hy => hs y (.agg hj hy))
  | tup vs cs hl _ ih =>
    intro u e hs
    cases u <;> simp only [Go.Ka.ren, V.tup.injEq, reduceCtorEq] at e
    rename_i cs0
    rw [renl_map] at e
    subst e
    have at2 : ∀ {el : List V} {j : Nat} {u : V}, el[j]? = some u → (el.map (Go.Ka.ren ρ))[j]? = some (Go.Ka.ren ρ u) := fun hj => by rw [List.getElem?_map, hj]; rfl
    exact .tup vs _ (by simpa using hl) (fun j v u hv hj => ih j v _ hv (at2 hj) u rfl fun y hy => hs y (.tup hj hy))
  | fn f vs cs hl _ ih =>
    intro u e hs
    cases u <;> simp only [Go.Ka.ren, V.fn.injEq, reduceCtorEq] at e
    rename_i f0 cs0
    rw [renl_map] at e
    obtain ⟨rfl, e⟩ := e
    subst e
    have at2 : ∀ {el : List V} {j : Nat} {u : V}, el[j]? = some u → (el.map (Go.Ka.ren ρ))[j]? = some (Go.Ka.ren ρ u) := fun hj => by rw [List.getElem?_map, hj]; rfl
    exact .fn _ vs _ (by simpa using hl) (fun j v u hv hj => ih j v _ hv (at2 hj) u rfl fun y hy => hs y (.fn hj hy))
  | own id a n c A k hk hc hm hA hB =>
    intro u e hs
    cases u <;> simp only [Go.Ka.ren, V.own.injEq, reduceCtorEq] at e
    rename_i id0 a0 n0
    obtain ⟨rfl, rfl, rfl⟩ := e
    exact .own id0 _ _ c A k ((hs id0 .own).trans hk) hc hm hA hB
  | ptr id i off k hk =>
    intro u e hs
    cases u <;> simp only [Go.Ka.ren, V.ptr.injEq, reduceCtorEq] at e
    rename_i id0 a0 n0
    obtain ⟨rfl, rfl, rfl⟩ := e
    exact .ptr id0 _ _ k ((hs id0 .ptr).trans hk)

/-- The blocks of objects. -/
def own0 (ν : Nu) (M : Hp) : Nat → Prop := fun b => ∃ id o k, M id = some o ∧ ν id = some k ∧ k.vt = false ∧ k.b = b

/-- What a call of which some objects are known leaves to its caller. -/
theorem Ok.call {B : Gd} {F F' : Fz} {ν νc ν' ν'' : Nu} {M Mc Mc' M'' : Hp} {w w' : World} (hok : Ok B F ν M w) (hsub : ∀ x o, Mc x = some o → M x = some o ∧ νc x = ν x)
    (h' : Ok ⟨w, F, own0 νc Mc⟩ F' ν' Mc' w') (hF : Fz.le F F') (hν : Nu.le ν ν'')
    (hM : ∀ x o, M'' x = some o → (Mc' x = some o ∧ ν'' x = ν' x ∧ ∀ el ∈ o.els, ∀ u ∈ el, ∀ y, u.names y → ν'' y = ν' y) ∨ (M x = some o ∧ Mc x = none ∧ ν'' x = ν x)) : Ok B F' ν'' M'' w' := by
  -- a frame's object lies apart from those of the call
  have apart : ∀ x o k, M x = some o → Mc x = none → ν x = some k → k.vt = false → ¬ own0 νc Mc k.b := by
    rintro x o k hm hc hk hv ⟨id, o1, k1, h1, h2, h3, h4⟩
    obtain ⟨g1, g2⟩ := hsub _ _ h1
    exact hok.inj x id o o1 k k1 hm g1 (fun e => by rw [e, h1] at hc; cases hc) hk (g2 ▸ h2) hv h3 h4.symm
  have known : ∀ x o k, Mc' x = some o → ν' x = some k → k.vt = false → (∃ id o1, Mc id = some o1 ∧ M id = some o1 ∧ ν id = some k ∨ ∃ k1, Mc id = some o1 ∧ M id = some o1 ∧ ν id = some k1 ∧ k1.vt = false ∧ k1.b = k.b) ∨ w.heap.size ≤ k.b := by
    intro x o k hm hk hv
    rcases h'.live x o k hm hk hv with ⟨id, o1, k1, h1, h2, h3, h4⟩ | h
    · obtain ⟨g1, g2⟩ := hsub _ _ h1
      exact .inl ⟨id, o1, .inr ⟨k1, h1, g1, g2 ▸ h2, h3, h4⟩⟩
    · exact .inr h
  have known' : ∀ x o k, Mc' x = some o → ν' x = some k → k.vt = false → (∃ id o1 k1, Mc id = some o1 ∧ M id = some o1 ∧ ν id = some k1 ∧ k1.vt = false ∧ k1.b = k.b) ∨ w.heap.size ≤ k.b := by
    intro x o k hm hk hv
    rcases h'.live x o k hm hk hv with ⟨id, o1, k1, h1, h2, h3, h4⟩ | h
    · obtain ⟨g1, g2⟩ := hsub _ _ h1
      exact .inl ⟨id, o1, k1, h1, g1, g2 ▸ h2, h3, h4⟩
    · exact .inr h
  have stay : ∀ b, b < B.w.heap.size → ¬ B.D b → ¬ own0 νc Mc b := by
    rintro b hb hD ⟨id, o1, k1, h1, h2, h3, rfl⟩
    obtain ⟨g1, g2⟩ := hsub _ _ h1
    rcases hok.live id o1 k1 g1 (g2 ▸ h2) h3 with h | h
    · exact hD h
    · omega
  refine ⟨h'.fz, fun x o hm => ?_, fun x y o o' k k' hx hy hne hkx hky v1 v2 => ?_, ⟨h'.below.os.trans hok.below.os, h'.below.tape.trans hok.below.tape, h'.below.output.trans hok.below.output, Nat.le_trans hok.below.size h'.below.size, fun b hb hD => ?_⟩, fun x o k hx hkx v1 => ?_, ⟨Fz.le_trans hok.tab.1 hF, h'.tab.2⟩, fun b o hb hD => ?_⟩
  · rcases hM x o hm with ⟨h1, h2, h3⟩ | ⟨h1, h2, h3⟩
    · obtain ⟨k, hk, hat, hf⟩ := h'.ob x o h1
      refine ⟨k, h2.trans hk, ?_, hf⟩
      rcases hat with ⟨hv, cur, ty, fr, g1, ⟨g2, gty⟩, g3, g4, g5, g6, g7⟩ | hat
      · refine .inl ⟨hv, cur, ty, fr, g1, ⟨g2, gty⟩, g3, g4, g5, g6, fun i el j u a b => ?_⟩
        obtain ⟨hc, v, hv, hr⟩ := g7 i el j u a b
        exact ⟨hc, v, hv, hr.less fun y hy => h3 el (List.mem_of_getElem? a) u (List.mem_of_getElem? b) y hy⟩
      · exact .inr hat
    · obtain ⟨k, hk, hat, hf⟩ := hok.ob x o h1
      refine ⟨k, h3.trans hk, hat.mono hF hν (fun hv => ?_), fun hv y => ?_⟩
      · exact h'.below.block k.b (hok.obLt h1 hk hv) (apart x o k h1 h2 hk hv)
      · have := h'.ice k.b y (hok.obLt h1 hk hv) (apart x o k h1 h2 hk hv)
        rw [this]
        exact hf hv y
  · rcases hM x o hx with ⟨h1, h2, _⟩ | ⟨h1, h2, h3⟩ <;> rcases hM y o' hy with ⟨g1, g2, _⟩ | ⟨g1, g2, g3⟩
    · exact h'.inj x y o o' k k' h1 g1 hne (h2 ▸ hkx) (g2 ▸ hky) v1 v2
    · have hky' : ν y = some k' := g3 ▸ hky
      rcases known' x o k h1 (h2 ▸ hkx) v1 with ⟨id, o1, k1, q1, q2, q3, q4, q5⟩ | hl
      · rw [← q5]
        exact hok.inj id y o1 o' k1 k' q2 g1 (fun e => by rw [← e, q1] at g2; cases g2) q3 hky' q4 v2
      · have := hok.obLt g1 hky' v2
        omega
    · have hkx' : ν x = some k := h3 ▸ hkx
      rcases known' y o' k' g1 (g2 ▸ hky) v2 with ⟨id, o1, k1, q1, q2, q3, q4, q5⟩ | hl
      · rw [← q5]
        exact hok.inj x id o o1 k k1 h1 q2 (fun e => by rw [e, q1] at h2; cases h2) hkx' q3 v1 q4
      · have := hok.obLt h1 hkx' v1
        omega
    · exact hok.inj x y o o' k k' h1 g1 hne (h3 ▸ hkx) (g3 ▸ hky) v1 v2
  · rw [← hok.below.block b hb hD]
    exact h'.below.block b (Nat.lt_of_lt_of_le hb hok.below.size) (stay b hb hD)
  · rcases hM x o hx with ⟨h1, h2, _⟩ | ⟨h1, h2, h3⟩
    · rcases known' x o k h1 (h2 ▸ hkx) v1 with ⟨id, o1, k1, q1, q2, q3, q4, q5⟩ | hl
      · rw [← q5]
        exact hok.live id o1 k1 q2 q3 q4
      · exact .inr (Nat.le_trans hok.below.size hl)
    · exact hok.live x o k h1 (h3 ▸ hkx) v1
  · exact (h'.ice b o (Nat.lt_of_lt_of_le hb hok.below.size) (stay b hb hD)).trans (hok.ice b o hb hD)

/-- Where a call begins. -/
theorem Ok.enter {B : Gd} {F : Fz} {ν νc : Nu} {M Mc : Hp} {w : World} (hok : Ok B F ν M w) (hsub : ∀ x o, Mc x = some o → M x = some o ∧ νc x = ν x ∧ ∀ el ∈ o.els, ∀ u ∈ el, ∀ y, u.names y → νc y = ν y) : Ok ⟨w, F, own0 νc Mc⟩ F νc Mc w := by
  refine ⟨hok.fz, fun x o hm => ?_, fun x y o o' k k' hx hy hne hkx hky v1 v2 => ?_, ⟨rfl, rfl, rfl, Nat.le_refl _, fun _ _ _ => rfl⟩, fun x o k hx hkx v1 => .inl ⟨x, o, k, hx, hkx, v1, rfl⟩, hok.tab, fun _ _ _ _ => rfl⟩
  · obtain ⟨h1, h2, h3⟩ := hsub x o hm
    obtain ⟨k, hk, hat, hf⟩ := hok.ob x o h1
    refine ⟨k, h2.trans hk, ?_, hf⟩
    rcases hat with ⟨hv, cur, ty, fr, g1, ⟨g2, gty⟩, g3, g4, g5, g6, g7⟩ | hat
    · refine .inl ⟨hv, cur, ty, fr, g1, ⟨g2, gty⟩, g3, g4, g5, g6, fun i el j u a b => ?_⟩
      obtain ⟨hc, v, hv, hr⟩ := g7 i el j u a b
      exact ⟨hc, v, hv, hr.less fun y hy => h3 el (List.mem_of_getElem? a) u (List.mem_of_getElem? b) y hy⟩
    · exact .inr hat
  · obtain ⟨h1, h2, _⟩ := hsub x o hx
    obtain ⟨g1, g2, _⟩ := hsub y o' hy
    exact hok.inj x y o o' k k' h1 g1 hne (h2 ▸ hkx) (g2 ▸ hky) v1 v2

def M0 : Hp := fun _ => none

/-- A call: what it hands back, and what becomes of the objects that it was handed; one may be new, by the number n. -/
def FS (P : Program) (f : Nat) (us : List V) (M : Hp) (n : Nat) (u : V) (es : Eff) : Prop :=
  ∀ w F ν (args : List Value), Ok ⟨w, F, own0 ν M⟩ F ν M w → (∀ id, n ≤ id → ν id = none) → args.length = us.length → (∀ (j : Nat) (v : Value) (u : V), args[j]? = some v → us[j]? = some u → Rel F ν v u) →
    Calls P f args.toArray w fun e w' => ∃ v F' ν', e = .returned v ∧ Ok ⟨w, F, own0 ν M⟩ F' ν' (app es M) w' ∧ Fz.le F F' ∧ (∀ id, id < n → ν' id = ν id) ∧ Rel F' ν' v u

/-- A call of plain values, to a plain value. -/
structure Pu (P : Program) (f : Nat) (us : List V) (u : V) : Prop where
  hus : ∀ x ∈ us, NF x
  hu : NF u
  run : FS P f us M0 0 u []

/-- The same with objects, in any names. -/
structure Fx (P : Program) (f : Nat) (us : List V) (M : Hp) (n : Nat) (u : V) (es : Eff) : Prop where
  hus : ∀ x ∈ us, Old n x
  hM : ∀ x o, M x = some o → x < n ∧ OldO n o
  hes : ∀ e ∈ es, (e.1 < n ∧ (M e.1).isSome) ∨ e.1 = n
  hM' : ∀ x o, app es M x = some o → OldO (n + 1) o
  hu : Old (n + 1) u
  run : FS P f us M n u es

section
variable {P : Program} {σ : Nat → V} {M : Hp} {id : Nat} {dst : Option Nat} {ty : Nat} {pos : String} {after : Array Edge} {guard : Option (Nat × Bool)} {c : Operand} {args : Array Operand} {ts : Array TypeId} {f : Nat} {caps : List V} {u : V}

/-- The arguments, laid together. -/
theorem call_enter {a : Act} {F : Fz} {ν : Nu} {w : World} (hm : Maps a F ν σ) (hc : ev σ c = .fn f caps) (hp : plain P f = true) :
    ∃ vs : List Value, (execOp a.eval ⟨dst, .call ⟨.value c, args, ts⟩, ty, pos, after, guard⟩).run P w = .ok (.enter f vs.toArray) w ∧ vs.length = (args.toList.map (ev σ) ++ caps).length ∧
      ∀ (j : Nat) (v : Value) (u : V), vs[j]? = some v → (args.toList.map (ev σ) ++ caps)[j]? = some u → Rel F ν v u := by
  have hr := ev_rel hm c
  rw [hc] at hr
  generalize hv : a.eval c = v at hr
  cases hr with
  | fn _ cvs _ hl hr =>
    refine ⟨args.toList.map a.eval ++ cvs, ?_, by simp [hl], fun j v u hj hu => ?_⟩
    · simp only [execOp, resolve, hv, Deferred.ofValue]
      simp [invoke, callFunc_plain hp]
    · rw [List.getElem?_append] at hj hu
      simp only [List.length_map] at hj hu
      split at hj
      · rename_i hlt
        rw [if_pos hlt] at hu
        rw [List.getElem?_map] at hj hu
        cases hx : args.toList[j]? with
        | none => simp [hx] at hj
        | some x =>
          simp [hx] at hj hu
          subst hj; subst hu
          exact ev_rel hm x
      · rename_i hlt
        rw [if_neg hlt] at hu
        exact hr _ _ _ hj hu

theorem yl_pu (hc : ev σ c = .fn f caps) (hp : plain P f = true) (h : Pu P f (args.toList.map (ev σ) ++ caps) u) : Yl P ⟨dst, .call ⟨.value c, args, ts⟩, ty, pos, after, guard⟩ σ M id u [] := by
  intro B M' hs a w F ν hok hid hN hm
  obtain ⟨vs, hrun, hl, hr⟩ := call_enter (args := args) (ts := ts) (dst := dst) (ty := ty) (pos := pos) (after := after) (guard := guard) (w := w) hm hc hp
  unfold Oper.wp
  rw [hrun]
  simp only [Oper.upon]
  refine (h.run w F ν0 vs (hok.enter (νc := ν0) (Mc := M0) (fun x o hx => by cases hx)) (fun _ _ => rfl) hl (fun j v u hj hu => (hr j v u hj hu).nf (h.hus u (List.mem_of_getElem? hu)))).mono fun e w' hx => ?_
  obtain ⟨v, F', ν', rfl, ok', hF, _, hrel⟩ := hx
  exact ⟨v, u, M', F', ν, rfl, ⟨rfl, rfl⟩, hok.call (Mc := M0) (fun x o hx => by cases hx) ok' hF (Nu.le_refl _) (fun x o hx => .inr ⟨hx, rfl, rfl⟩), hF, Nu.le_refl _, fun _ _ => rfl, hrel.nf h.hu⟩

theorem yl_fx {es : Eff} (hc : ev σ c = .fn f caps) (hp : plain P f = true) {Mc : Hp} (hM : Sub Mc M) (h : Fx P f (args.toList.map (ev σ) ++ caps) Mc id u es) : Yl P ⟨dst, .call ⟨.value c, args, ts⟩, ty, pos, after, guard⟩ σ M id u es := by
  intro B M' hs a w F ν hok hid hN hm
  obtain ⟨vs, hrun, hl, hr⟩ := call_enter (args := args) (ts := ts) (dst := dst) (ty := ty) (pos := pos) (after := after) (guard := guard) (w := w) hm hc hp
  unfold Oper.wp
  rw [hrun]
  simp only [Oper.upon]
  let νc : Nu := fun x => if x < id then ν x else none
  have lt : ∀ x, x < id → νc x = ν x := fun x hx => if_pos hx
  refine (h.run w F νc vs (hok.enter (νc := νc) (Mc := Mc) (fun x o hx => ⟨hs _ _ (hM _ _ hx), lt x (h.hM x o hx).1, fun el hel u hu y hy => lt y ((h.hM x o hx).2 el hel u hu y hy)⟩)) (fun x hx => if_neg (by omega)) hl
    (fun j v u hj hu => (hr j v u hj hu).less fun y hy => lt y (h.hus u (List.mem_of_getElem? hu) y hy))).mono fun e w' hx => ?_
  obtain ⟨v, F', ν', rfl, ok', hF, hold, hrel⟩ := hx
  let ν'' : Nu := fun x => if x = id then ν' id else ν x
  have hν : Nu.le ν ν'' := fun x k hx => by
    show (if x = id then _ else _) = _
    rw [if_neg (fun e => by rw [e, hid] at hx; cases hx)]
    exact hx
  have agree : ∀ y, y < id + 1 → ν'' y = ν' y := fun y hy => by
    show (if y = id then _ else _) = _
    split
    · rename_i e; rw [e]
    · rename_i e
      rw [hold y (by omega), lt y (by omega)]
  have inId : ∀ x ∈ ids es, x < id + 1 := fun x hx => by
    obtain ⟨e, he, rfl⟩ := List.mem_map.1 hx
    rcases h.hes e he with ⟨h1, _⟩ | h1 <;> omega
  refine ⟨v, u, app es M', F', ν'', rfl, ⟨rfl, rfl⟩, hok.call (Mc := Mc) (fun x o hx => ⟨hs _ _ (hM _ _ hx), lt x (h.hM x o hx).1⟩) ok' hF hν (fun x o hx => ?_), hF, hν, fun x hx => if_neg hx, hrel.less fun y hy => agree y (h.hu y hy)⟩
  by_cases hx' : x ∈ ids es
  · rw [app_at (M' := Mc) hx'] at hx
    exact .inl ⟨hx, agree x (inId x hx'), fun el hel u hu y hy => agree y (h.hM' x o hx el hel u hu y hy)⟩
  · rw [app_other hx'] at hx
    cases hmc : Mc x with
    | none =>
      refine .inr ⟨hx, rfl, if_neg (fun e => ?_)⟩
      subst e
      obtain ⟨k, hk, _⟩ := hok.ob _ _ hx
      rw [hid] at hk
      cases hk
    | some o1 =>
      have e1 := hs _ _ (hM _ _ hmc)
      rw [hx] at e1
      cases e1
      have hc' : app es Mc x = some o := by rw [app_other hx']; exact hmc
      exact .inl ⟨hc', agree x (by have := (h.hM x o hmc).1; omega), fun el hel u hu y hy => agree y (h.hM' x o hc' el hel u hu y hy)⟩
end
end Go.Ka
