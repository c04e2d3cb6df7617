/- Functions that hand back an object of their own. -/
import Derived.Test.YtnbmjbpekblhbaaGreatDoorKaHo
set_option linter.all false
namespace Go.Ka
open Go.RowKit
variable [Tab]

/-- A value that names one object, by whatever number. -/
def Fam (j : Nat) (u : Nat → V) : Prop := ∀ F ν ν' v id, ν' id = ν j → Rel F ν v (u j) → Rel F ν' v (u id)
inductive Fams (j : Nat) : (Nat → List V) → Prop
  | nil : Fams j fun _ => []
  | cons {u : Nat → V} {us : Nat → List V} (h : Fam j u) (hs : Fams j us) : Fams j fun i => u i :: us i
theorem Fam.nf {j : Nat} {u : V} (h : NF u) : Fam j fun _ => u := fun _ _ _ _ _ _ hr => hr.nf h
theorem Fam.own {j a n : Nat} : Fam j fun i => .own i a n := fun F ν ν' v id h hr => by
  cases hr with
  | own _ _ _ c A k hk hc hm hA hB => exact .own id a n c A k (h.trans hk) hc hm hA hB
theorem Fams.len {j : Nat} {us : Nat → List V} (h : Fams j us) : ∀ i, (us i).length = (us j).length := by
  induction h with
  | nil => intro i; rfl
  | cons _ _ ih => intro i; simp [ih i]
theorem Fams.at {j : Nat} {us : Nat → List V} (h : Fams j us) : ∀ (x i : Nat) (u' : V), (us i)[x]? = some u' → ∃ u : Nat → V, (us j)[x]? = some (u j) ∧ u i = u' ∧ Fam j u := by
  induction h with
  | nil => intro x i u' hx; simp at hx
  | cons h hs ih =>
    intro x i u' hx
    cases x with
    | zero => simp at hx; exact ⟨_, rfl, hx, h⟩
    | succ x => exact ih x i u' (by simpa using hx)
theorem Fam.tup {j : Nat} {us : Nat → List V} (h : Fams j us) : Fam j fun i => .tup (us i) := fun F ν ν' v id he hr => by
  dsimp only at hr ⊢
  generalize hu : us j = uj at hr
  cases hr with
  | tup vs _ hl hr =>
    subst hu
    refine .tup vs _ (hl.trans (h.len id).symm) fun x v u' hv hu' => ?_
    obtain ⟨u, h1, rfl, h2⟩ := h.at x id u' hu'
    exact h2 F ν ν' v id he (hr x v _ hv h1)
theorem Fam.agg {j : Nat} {us : Nat → List V} (h : Fams j us) (hc : ∀ i, ((us i).all V.cell) = true) : Fam j fun i => .agg (us i) := fun F ν ν' v id he hr => by
  dsimp only at hr ⊢
  generalize hu : us j = uj at hr
  cases hr with
  | agg vs _ hl hce hr =>
    subst hu
    refine .agg vs _ (hl.trans (h.len id).symm) (fun x u hx => cellL (hc id) u (List.mem_of_getElem? hx)) fun x v u' hv hu' => ?_
    obtain ⟨u, h1, rfl, h2⟩ := h.at x id u' hu'
    exact h2 F ν ν' v id he (hr x v _ hv h1)

/-- A call of plain values that hands back an object of its own. -/
structure Nw (P : Program) (f : Nat) (us : List V) (u : Nat → V) (o : Ob) : Prop where
  hus : ∀ x ∈ us, NF x
  ho : NFO o
  run : ∃ j, FS P f us M0 0 (u j) [(j, some o)] ∧ Fam j u

section
variable {P : Program} {σ : Nat → V} {M : Hp} {id : Nat} {dst : Option Nat} {ty : Nat} {pos : String} {after : Array Edge} {guard : Option (Nat × Bool)} {c : Operand} {args : Array Operand} {ts : Array TypeId} {f : Nat} {caps : List V} {u : Nat → V} {o : Ob}
theorem yl_nw (hc : ev σ c = .fn f caps) (hp : plain P f = true) (h : Nw P f (args.toList.map (ev σ) ++ caps) u o) : Yl P ⟨dst, .call ⟨.value c, args, ts⟩, ty, pos, after, guard⟩ σ M id (u id) [(id, some o)] := by
  intro B M' hs a w F ν hok hid hN hm
  obtain ⟨vs, hrun, hl, hr⟩ := call_enter (args := args) (ts := ts) (dst := dst) (ty := ty) (pos := pos) (after := after) (guard := guard) (w := w) hm hc hp
  obtain ⟨j, run, fam⟩ := h.run
  unfold Oper.wp
  rw [hrun]
  simp only [Oper.upon]
  refine (run w F ν0 vs (hok.enter (νc := ν0) (Mc := M0) (fun x o hx => by cases hx)) (fun _ _ => rfl) hl (fun j v u hj hu => (hr j v u hj hu).nf (h.hus u (List.mem_of_getElem? hu)))).mono fun e w' hx => ?_
  obtain ⟨v, F', ν', rfl, ok', hF, _, hrel⟩ := hx
  have at0 : ∀ x o', app [(j, some o)] M0 x = some o' → x = j ∧ o' = o := fun x o' hx => by
    simp only [app, setM_at] at hx
    split at hx
    · rename_i e; exact ⟨e, (Option.some.inj hx).symm⟩
    · cases hx
  have atj : app [(j, some o)] M0 j = some o := by simp [app, setM_at]
  obtain ⟨kj, hkj, _⟩ := ok'.ob j o atj
  let ν2 : Nu := fun x => if x = id then ν' j else none
  have ok2 : Ok ⟨w, F, own0 ν0 M0⟩ F' ν2 (setM M0 id (some o)) w' := Ok.alike ok' (fun _ => Iff.rfl) (fun _ => j) (fun x o' hx => by
    rw [setM_at] at hx
    split at hx
    · rename_i e; cases hx; exact ⟨atj, if_pos e, h.ho⟩
    · cases hx) (fun x y o1 o2 hx hy _ => by
    rw [setM_at] at hx hy
    split at hx
    · rename_i e1
      split at hy
      · rename_i e2; exact e1.trans e2.symm
      · cases hy
    · cases hx)
  let ν3 : Nu := fun x => if x = id then ν' j else ν x
  have hν : Nu.le ν ν3 := fun x k hx => by
    show (if x = id then _ else _) = _
    rw [if_neg (fun e => by rw [e, hid] at hx; cases hx)]
    exact hx
  refine ⟨v, u id, app [(id, some o)] M', F', ν3, rfl, ⟨rfl, rfl⟩, hok.call (Mc := M0) (νc := ν0) (fun x o hx => by cases hx) ok2 hF hν (fun x o' hx => ?_), hF, hν, fun x hx => if_neg hx, fam F' ν' ν3 v id (if_pos rfl) hrel⟩
  simp only [app, setM_at] at hx
  split at hx
  · rename_i e
    cases hx
    exact .inl ⟨by rw [setM_at, if_pos e], by show (if x = id then _ else _) = (if x = id then _ else _); rw [if_pos e, if_pos e], fun el hel u hu y hy => absurd hy (h.ho el hel u hu y)⟩
  · rename_i e
    exact .inr ⟨hx, rfl, if_neg e⟩
end

section
variable {G : Rg} {os : List Oper} {i : Nat} {σ σ' : Nat → V} {M M' : Hp} {ds : List Yd}
variable {d : Option Nat} {ty : Nat} {pos : String} {aft : Array Edge} {g : Option (Nat × Bool)}
variable {cal : Operand} {args : Array Operand} {ts : Array TypeId} {f : Nat} {caps us us' : List V} {u : Nat → V} {o : Ob}
theorem x_nw (hc : ev σ cal = .fn f caps) (hp : plain G.P f = true) (h : Nw G.P f us u o) (he : args.toList.map (ev σ) ++ caps = us) (c : Ck G ⟨d, .call ⟨.value cal, args, ts⟩, ty, pos, aft, g⟩ i σ [(G.n0 + i, some o)]) (r : Lx G os (i + 1) (upd σ d (u (G.n0 + i))) (setM M (G.n0 + i) (some o)) ds σ' M') : Lx G (⟨d, .call ⟨.value cal, args, ts⟩, ty, pos, aft, g⟩ :: os) i σ M (⟨u (G.n0 + i), [(G.n0 + i, some o)]⟩ :: ds) σ' M' :=
  lx_on c (yl_nw ((ev_see (by simp [Op.operands, Call.operands])).trans hc) hp (by
    rw [evl_congr (σ' := σ) fun y hy => ev_see (by simp [Op.operands, Call.operands] at hy ⊢; simp [hy]), he]
    exact h)) r
end
theorem nfob {α : Type} [Enc α] {l : List α} : NFO (ob l) := fun el hel u hu => by
  obtain ⟨a, _, rfl⟩ := List.mem_map.1 hel
  exact Enc.nf a u hu
theorem sub1 {M : Hp} {j : Nat} {o : Ob} (h : M j = some o) : Sub (app [(j, some o)] M0) M := fun x o' hx => by
  simp only [app, setM_at] at hx
  split at hx
  · rename_i e; subst e; cases hx; exact h
  · cases hx
theorem Nw.args {P : Program} {f : Nat} {us us' : List V} {u : Nat → V} {o : Ob} (h : Nw P f us' u o) (hw : Wks us us') (hn : ∀ x ∈ us, NF x) : Nw P f us u o := by
  obtain ⟨j, run, fam⟩ := h.run
  exact ⟨hn, h.ho, j, fun w F ν args hok hnx hl hr => run w F ν args hok hnx (hl.trans hw.len) fun j v u' hv hu => by
    obtain ⟨u0, h0, hw⟩ := hw.at j u' hu
    exact hw _ _ _ (hr j v u0 hv h0), fam⟩
end Go.Ka
