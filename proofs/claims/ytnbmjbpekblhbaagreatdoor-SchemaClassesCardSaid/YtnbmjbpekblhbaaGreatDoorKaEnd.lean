/- An object that is written no more; a contract out of a body; a contract by other names; a call that is lent an object. -/
import Derived.Test.YtnbmjbpekblhbaaGreatDoorKaCode
set_option linter.all false
namespace Go.Ka
open Go.RowKit
variable [Tab]

/-! ### Written no more -/
/-- Object i's cells stand fast. -/
structure Ice (F F' : Fz) (ν : Nu) (i : Nat) (o : Ob) : Prop where
  le : Fz.le F F'
  at' : ∃ k, ν i = some k ∧ k.sz = o.sz ∧ (∀ (x : Nat) (el : List V), o.els[x]? = some el → el.length = o.sz) ∧
    ∀ (x : Nat) (el : List V) (j : Nat) (u : V), o.els[x]? = some el → el[j]? = some u → u.cell = true ∧ ∃ v, F' k.b (x * o.sz + j) = some v ∧ Rel F' ν v u
def Fz2 (i : Nat) (o : Ob) (u u' : V) : Prop := ∀ F F' ν v, Ice F F' ν i o → Rel F ν v u → Rel F' ν v u'
inductive Fzs (i : Nat) (o : Ob) : List V → List V → Prop
  | nil : Fzs i o [] []
  | cons {u u' : V} {us us' : List V} (h : Fz2 i o u u') (hs : Fzs i o us us') : Fzs i o (u :: us) (u' :: us')

section
variable {i : Nat} {o : Ob}
theorem Fz2.keep {u : V} : Fz2 i o u u := fun _ _ _ _ h hr => hr.mono h.le (Nu.le_refl _)
theorem Fz2.any {u : V} : Fz2 i o u .any := fun _ _ _ v _ _ => .any v
theorem Fz2.own {a n : Nat} (hlen : a + n ≤ o.els.length) : Fz2 i o (.own i a n) (.arr ((o.els.drop a).take n)) := fun F F' ν v h hr => by
  obtain ⟨k, hk, hsz, hl, hat⟩ := h.at'
  cases hr with
  | own _ _ _ c A k' hk' hc hm hA hB =>
    rw [hk] at hk'
    cases hk'
    have get : ∀ (x : Nat) (el : List V), ((o.els.drop a).take n)[x]? = some el → o.els[a + x]? = some el := fun x el hx => by
      rw [List.getElem?_take] at hx
      split at hx
      · rwa [List.getElem?_drop] at hx
      · cases hx
    refine .arr A n c o.sz _ (fun x y => (F' k.b ((a + x) * o.sz + y)).getD default) (by simp; omega) hc hm (fun x el hx => hl _ _ (get x el hx)) (fun x el j u hx hj => (hat _ _ _ _ (get x el hx) hj).1) (fun h0 => ?_) (fun x el j u hx hj => ?_)
    · obtain ⟨hA1, _⟩ := hA (by omega)
      refine ⟨k.b, a * k.sz, hA1, fun x el j u hx hj => ?_⟩
      obtain ⟨_, v, hv, _⟩ := hat _ _ _ _ (get x el hx) hj
      have e : a * k.sz + x * o.sz + j = (a + x) * o.sz + j := by rw [hsz, Nat.add_mul]
      rw [e, hv]
      rfl
    · obtain ⟨_, v, hv, hr⟩ := hat _ _ _ _ (get x el hx) hj
      rw [hv]
      exact hr
theorem Fz2.ptr {x off : Nat} {el : List V} (he : o.els[x]? = some el) : Fz2 i o (.ptr i x off) (.iptr (el.drop off)) := fun F F' ν v h hr => by
  obtain ⟨k, hk, hsz, hl, hat⟩ := h.at'
  cases hr with
  | ptr _ _ _ k' hk' =>
    rw [hk] at hk'
    cases hk'
    have get : ∀ (y : Nat) (u : V), (el.drop off)[y]? = some u → el[off + y]? = some u := fun y u hy => by rwa [List.getElem?_drop] at hy
    refine .iptr k.b (x * k.sz + off) _ (fun y => (F' k.b (x * k.sz + off + y)).getD default) (fun y u hy => (hat _ _ _ _ he (get y u hy)).1) (fun y u hy => ?_) (fun y u hy => ?_)
    · obtain ⟨_, v, hv, _⟩ := hat _ _ _ _ he (get y u hy)
      have e : x * k.sz + off + y = x * o.sz + (off + y) := by rw [hsz]; omega
      rw [e, hv]; rfl
    · obtain ⟨_, v, hv, hr⟩ := hat _ _ _ _ he (get y u hy)
      have e : x * k.sz + off + y = x * o.sz + (off + y) := by rw [hsz]; omega
      rw [e, hv]; exact hr
theorem Fzs.len {us us' : List V} (h : Fzs i o us us') : us.length = us'.length := by
  induction h with
  | nil => rfl
  | cons _ _ ih => simp [ih]
theorem Fzs.at {us us' : List V} (h : Fzs i o us us') : ∀ (j : Nat) (u' : V), us'[j]? = some u' → ∃ u, us[j]? = some u ∧ Fz2 i o u u' := by
  induction h with
  | nil => intro j u' hj; simp at hj
  | cons h hs ih =>
    intro j u' hj
    cases j with
    | zero => simp at hj; subst hj; exact ⟨_, rfl, h⟩
    | succ j => exact ih j u' (by simpa using hj)
theorem Fzs.keep (us : List V) : Fzs i o us us := by
  induction us with
  | nil => exact .nil
  | cons u r ih => exact .cons Fz2.keep ih
theorem Fzs.append {us us' vs vs' : List V} (h : Fzs i o us us') (h2 : Fzs i o vs vs') : Fzs i o (us ++ vs) (us' ++ vs') := by
  induction h with
  | nil => exact h2
  | cons h _ ih => exact .cons h ih
theorem Fz2.agg {us us' : List V} (h : Fzs i o us us') (hc : ∀ u ∈ us', u.cell = true) : Fz2 i o (.agg us) (.agg us') := fun F F' ν v hi hr => by
  cases hr with
  | agg vs _ hl hce hr =>
    refine .agg vs us' (hl.trans h.len) (fun j u hj => hc u (List.mem_of_getElem? hj)) fun j v u hv hj => ?_
    obtain ⟨u0, h0, hw⟩ := h.at j u hj
    exact hw _ _ _ _ hi (hr j v u0 hv h0)
theorem Fz2.tup {us us' : List V} (h : Fzs i o us us') : Fz2 i o (.tup us) (.tup us') := fun F F' ν v hi hr => by
  cases hr with
  | tup vs _ hl hr =>
    refine .tup vs us' (hl.trans h.len) fun j v u hv hj => ?_
    obtain ⟨u0, h0, hw⟩ := h.at j u hj
    exact hw _ _ _ _ hi (hr j v u0 hv h0)
theorem Fz2.fn {f : Nat} {us us' : List V} (h : Fzs i o us us') : Fz2 i o (.fn f us) (.fn f us') := fun F F' ν v hi hr => by
  cases hr with
  | fn _ vs _ hl hr =>
    refine .fn f vs us' (hl.trans h.len) fun j v u hv hj => ?_
    obtain ⟨u0, h0, hw⟩ := h.at j u hj
    exact hw _ _ _ _ hi (hr j v u0 hv h0)

/-- Objects beside it. -/
def FzO (i : Nat) (o : Ob) (p p' : Ob) : Prop := p'.sz = p.sz ∧ p'.els.length = p.els.length ∧ ∀ (x : Nat) (el' : List V), p'.els[x]? = some el' → ∃ el, p.els[x]? = some el ∧ Fzs i o el el' ∧ ∀ u ∈ el', u.cell = true
theorem FzO.cell {us us' : List V} {sz : Nat} (h : Fzs i o us us') (hc : ∀ u ∈ us', u.cell = true) : FzO i o ⟨[us], sz⟩ ⟨[us'], sz⟩ := ⟨rfl, rfl, fun x el' hx => by
  cases x <;> simp at hx
  subst hx
  exact ⟨us, rfl, h, hc⟩⟩
theorem FzO.append {es es' fs fs' : List (List V)} {sz : Nat} (h : FzO i o ⟨es, sz⟩ ⟨es', sz⟩) (h2 : FzO i o ⟨fs, sz⟩ ⟨fs', sz⟩) : FzO i o ⟨es ++ fs, sz⟩ ⟨es' ++ fs', sz⟩ := by
  obtain ⟨_, l1, h1⟩ := h
  obtain ⟨_, l2, h2⟩ := h2
  dsimp only at l1 l2 h1 h2
  refine ⟨rfl, by simp [l1, l2], fun x el' hx => ?_⟩
  dsimp only at hx ⊢
  rw [List.getElem?_append] at hx ⊢
  split at hx
  · rename_i hc
    rw [if_pos (by omega)]
    exact h1 x el' hx
  · rename_i hc
    rw [if_neg (by omega), ← l1]
    exact h2 _ el' hx

def FzL (i : Nat) (o : Ob) (σ : Nat → V) : List (Nat × V) → Prop
  | [] => True
  | p :: r => Fz2 i o (σ p.1) p.2 ∧ FzL i o σ r
def FzH (i : Nat) (o : Ob) (M : Hp) : List (Nat × Ob) → Prop
  | [] => True
  | p :: r => (Nat.beq p.1 i = false ∧ ((M p.1 = some p.2) ∨ ∃ q, M p.1 = some q ∧ FzO i o q p.2)) ∧ FzH i o M r
theorem FzH.at {M : Hp} {H : List (Nat × Ob)} (h : FzH i o M H) {x : Nat} {o' : Ob} (hx : hl H x = some o') : x ≠ i ∧ ((M x = some o') ∨ ∃ q, M x = some q ∧ FzO i o q o') := by
  induction H with
  | nil => cases hx
  | cons p r ih =>
    rw [hl_cons] at hx
    split at hx
    · rename_i e
      subst e
      cases hx
      exact ⟨fun e => by have := h.1.1; rw [e] at this; simp at this, h.1.2⟩
    · exact ih h.2 hx
end

theorem ObAt.cellF {F : Fz} {ν : Nu} {w : World} {o : Ob} {k : Blk} (h : ObAt F ν w o k) (hF : k.vt = false → ∀ x, F k.b x = none) {M : Hp} {B : Gd} (hok : Ok B F ν M w) {i : Nat} (hk : ν i = some k) (hn : k.vt = false → ∀ id' o' k', M id' = some o' → ν id' = some k' → k'.vt = false → k'.b ≠ k.b) (hlv : k.vt = false → B.D k.b ∨ B.w.heap.size ≤ k.b) :
    ∃ F', Ice F F' ν i o ∧ Ok B F' ν M w := by
  have hl := h.lens
  rcases h with ⟨hv, cur, ty, fr, g1, ⟨g2, gty⟩, g3, g4, g5, g6, g7⟩ | ⟨hv, g1, g2, g3⟩
  · have hle := addF_le (f := fun x => cur[x]?) (hF hv)
    refine ⟨_, ⟨hle, k, hk, g4, g5, fun x el j u hx hj => ?_⟩, hok.imm (hF hv) (hn hv) (hlv hv) (fun x v hx => by rw [cell_at g1]; exact hx)⟩
    obtain ⟨hc, v, hv, hr⟩ := g7 x el j u hx hj
    exact ⟨hc, v, by simpa [addF] using hv, hr.mono hle (Nu.le_refl _)⟩
  · exact ⟨F, ⟨Fz.le_refl _, k, hk, g2, hl, fun x el j u hx => by rw [g3] at hx; simp at hx⟩, hok⟩

/-- An object is written no more. -/
theorem to_fz {X : Cx} {σ : Nat → V} {M : Hp} {n : Nat} (i : Nat) {o : Ob} (hm : M i = some o) {L : List (Nat × V)} {H : List (Nat × Ob)} (hL : FzL i o σ L) (hH : FzH i o M H) : To X ⟨σ, M, n⟩ ⟨ls L, hl H, n⟩ := by
  intro a w F ν hs
  obtain ⟨k, hk, hat, hF⟩ := hs.ok.ob _ _ hm
  obtain ⟨F', hic, ok'⟩ := hat.cellF hF (hs.ok.drop i) (i := i) hk (fun hv id' o' k' a b v' => by
    have hne : id' ≠ i := fun e => by rw [e, setM_same] at a; cases a
    rw [setM_ne hne] at a
    exact hs.ok.inj _ _ _ _ _ _ a hm hne b hk v' hv) (fun hv => hs.ok.live _ _ _ hm hk hv)
  have src : ∀ x o', hl H x = some o' → ∃ q, setM M i none x = some q := fun x o' hx => by
    obtain ⟨hne, h | ⟨q, h, _⟩⟩ := hH.at hx
    · exact ⟨o', by rw [setM_ne hne]; exact h⟩
    · exact ⟨q, by rw [setM_ne hne]; exact h⟩
  refine ⟨F', ν, ⟨ok'.fz, fun x o' hx => ?_, fun x y o1 o2 k1 k2 hx hy => ?_, ok'.below, fun x o1 k1 hx => ?_, ok'.tab, ok'.ice⟩, hs.nxt, fun t => ?_, hs.size, hs.df, Fz.le_trans hs.leF hic.le, hs.old, hs.le⟩
  · obtain ⟨hne, h | ⟨q, h, h1, h2, h3⟩⟩ := hH.at hx
    · exact ok'.ob x o' (by rw [setM_ne hne]; exact h)
    · obtain ⟨kx, hkx, hat, hfx⟩ := ok'.ob x q (by rw [setM_ne hne]; exact h)
      refine ⟨kx, hkx, ?_, hfx⟩
      rcases hat with ⟨hv, cur, ty, fr, g1, ⟨g2, gty⟩, g3, g4, g5, g6, g7⟩ | ⟨hv, g1, g2, g3⟩
      · refine .inl ⟨hv, cur, ty, fr, g1, ⟨g2, gty⟩, g3, g4.trans h1.symm, fun x' el' hx' => ?_, by rw [h2, h1]; exact g6, fun x' el' j u' hx' hj => ?_⟩
        · obtain ⟨el, he, hz, _⟩ := h3 x' el' hx'
          rw [← hz.len, h1]
          exact g5 x' el he
        · obtain ⟨el, he, hz, hc⟩ := h3 x' el' hx'
          obtain ⟨u, hu, hw⟩ := hz.at j u' hj
          obtain ⟨_, v, hv, hr⟩ := g7 x' el j u he hu
          refine ⟨hc u' (List.mem_of_getElem? hj), v, by rw [h1]; exact hv, hw _ _ _ _ ⟨Fz.le_refl _, hic.at'⟩ hr⟩
      · exact .inr ⟨hv, g1, g2.trans h1.symm, List.eq_nil_of_length_eq_zero (by rw [h2, g3]; rfl)⟩
  · obtain ⟨q1, h1⟩ := src _ _ hx
    obtain ⟨q2, h2⟩ := src _ _ hy
    exact ok'.inj _ _ _ _ _ _ h1 h2
  · obtain ⟨q1, h1⟩ := src _ _ hx
    exact ok'.live _ _ _ h1
  · have hm := hs.maps
    dsimp only at hm ⊢
    induction L with
    | nil => exact .any _
    | cons p r ih =>
      rw [ls_cons]
      split
      · rename_i e; subst e; exact hL.1 _ _ _ _ hic (hm _)
      · exact ih hL.2

/-! ### A call that is lent an object -/
/-- It reads the same wherever. -/
def Pl (u : V) : Prop := ∀ F ν F' ν' v, Rel F ν v u → Rel F' ν' v u
theorem Pl.val {v : Value} : Pl (.val v) := fun _ _ _ _ _ h => by cases h with | val _ h => exact .val _ h
theorem Pl.nz : Pl .nz := fun _ _ _ _ _ h => by cases h with | nz t v => exact .nz t v
theorem Pl.tup {us : List V} (h : ∀ u ∈ us, Pl u) : Pl (.tup us) := fun _ _ _ _ _ hr => by
  cases hr with | tup vs _ hl hr => exact .tup vs _ hl fun j v u hv hu => h u (List.mem_of_getElem? hu) _ _ _ _ _ (hr j v u hv hu)
theorem Pl.agg {us : List V} (h : ∀ u ∈ us, Pl u) : Pl (.agg us) := fun _ _ _ _ _ hr => by
  cases hr with | agg vs _ hl hce hr => exact .agg vs _ hl hce fun j v u hv hu => h u (List.mem_of_getElem? hu) _ _ _ _ _ (hr j v u hv hu)

section
variable {P : Program} {σ : Nat → V} {M : Hp} {id : Nat} {dst : Option Nat} {ty : Nat} {pos : String} {after : Array Edge} {guard : Option (Nat × Bool)} {c : Operand} {args : Array Operand} {ts : Array TypeId} {f : Nat} {caps : List V} {u : V}
theorem yl_bo {i : Nat} {o : Ob} {us' : List V} (hc : ev σ c = .fn f caps) (hp : plain P f = true) (hM : M i = some o) (hus : Fzs i o (args.toList.map (ev σ) ++ caps) us') (h : Pu P f us' u) (hu : Pl u) : Yl P ⟨dst, .call ⟨.value c, args, ts⟩, ty, pos, after, guard⟩ σ M id u [] := by
  intro B M' hs a w F ν hok hid hN hm
  obtain ⟨vs, hrun, hl, hr⟩ := call_enter (args := args) (ts := ts) (dst := dst) (ty := ty) (pos := pos) (after := after) (guard := guard) (w := w) hm hc hp
  unfold Oper.wp
  rw [hrun]
  simp only [Oper.upon]
  have hmi := hs _ _ hM
  obtain ⟨k, hk, hat, hF⟩ := hok.ob _ _ hmi
  obtain ⟨F1, hic, ok1⟩ := hat.cellF hF (hok.drop i) (i := i) hk (fun hv id' o' k' a b v' => by
    have hne : id' ≠ i := fun e => by rw [e, setM_same] at a; cases a
    rw [setM_ne hne] at a
    exact hok.inj _ _ _ _ _ _ a hmi hne b hk v' hv) (fun hv => hok.live _ _ _ hmi hk hv)
  refine (h.run w F1 ν0 vs (ok1.enter (νc := ν0) (Mc := M0) (fun x o hx => by cases hx)) (fun _ _ => rfl) (hl.trans hus.len) (fun j v u hj hu => ?_)).mono fun e w' hx => ?_
  · obtain ⟨u0, h0, hw⟩ := hus.at j u hu
    exact (hw _ _ _ _ hic (hr j v u0 hj h0)).nf (h.hus u (List.mem_of_getElem? hu))
  · obtain ⟨v, F', ν', rfl, ok', hF', _, hrel⟩ := hx
    exact ⟨v, u, M', F, ν, rfl, ⟨rfl, rfl⟩, hok.on ok'.below.os ok'.below.tape ok'.below.output ok'.below.size (fun b hb => ok'.below.block b hb (fun ⟨_, _, _, h, _⟩ => by cases h)), Fz.le_refl _, Nu.le_refl _, fun _ _ => rfl, hu _ _ _ _ _ hrel⟩
end

/-! ### A contract out of a body -/
/-- What a body's results are. -/
def rres (P : Program) (s : St) : ResultVar → Option V
  | .tmp t => some (s.σ t)
  | .cell p ty => match pcells s.M (s.σ p), isAg P ty, szOf P ty with
    | some cs, some ag, some n => vload ag n cs
    | _, _, _ => none
def vress (P : Program) (s : St) : List ResultVar → Option (List V)
  | [] => some []
  | r :: rs => match rres P s r, vress P s rs with
    | some u, some us => some (u :: us)
    | _, _ => none
def vtup : List V → V
  | [u] => u
  | us => .tup us
def vres (P : Program) (s : St) (rs : List ResultVar) : Option V := (vress P s rs).map vtup

def resOne (tmps : Array Value) : ResultVar → Sem Value
  | .tmp t => pure (tmps.getD t undef)
  | .cell p t => do loadVar t (← asAddr (tmps.getD p undef))

theorem results_eq (fn : Func) (tmps : Array Value) : results fn tmps = (do
    let vs ← fn.results.mapM (resOne tmps)
    pure (if h : vs.size = 1 then vs[0] else .tuple vs)) := rfl

section
variable {P : Program} {X : Cx} {s : St}
theorem vress_run {a : Act} {w : World} {F : Fz} {ν : Nu} (hs : Sim X s a w F ν) : ∀ (rs : List ResultVar) (us : List V), vress P s rs = some us →
    ∃ vs : List Value, (rs.mapM (resOne a.tmps)).run P w = .ok vs w ∧ vs.length = us.length ∧ ∀ (j : Nat) (v : Value) (u : V), vs[j]? = some v → us[j]? = some u → Rel F ν v u := by
  intro rs
  induction rs with
  | nil => intro us h; simp only [vress, Option.some.injEq] at h; subst h; exact ⟨[], by simp, rfl, fun j v u h => by simp at h⟩
  | cons r rs ih =>
    intro us h
    unfold vress at h
    split at h
    · rename_i u us' hu hus
      simp only [Option.some.injEq] at h
      subst h
      obtain ⟨vs, h1, h2, h3⟩ := ih us' hus
      have one : ∃ v, (resOne a.tmps r).run P w = .ok v w ∧ Rel F ν v u := by
        cases r with
        | tmp t =>
          simp only [rres, Option.some.injEq] at hu
          subst hu
          exact ⟨_, rfl, hs.maps t⟩
        | cell p t =>
          simp only [rres] at hu
          split at hu
          · rename_i cs ag n hc ha hn
            obtain ⟨b, o, vals, hp, hcs⟩ := pcells_at hs.ok (hs.maps p) hc
            obtain ⟨v, hv, hr⟩ := load_run (P := P) ha hn hcs hu
            exact ⟨v, by simp [resOne, hp, asAddr, hv], hr⟩
          · cases hu
      obtain ⟨v, hv, hr⟩ := one
      refine ⟨v :: vs, ?_, by simp [h2], fun j x y hx hy => ?_⟩
      · rw [List.mapM_cons]
        simp only [Sem.run_bind, hv, Result.andThen, h1]
        rfl
      · cases j with
        | zero => simp at hx hy; subst hx; subst hy; exact hr
        | succ j => exact h3 j x y (by simpa using hx) (by simpa using hy)
    · cases h

theorem vres_run {a : Act} {w : World} {F : Fz} {ν : Nu} {fn : Func} {u : V} (hs : Sim X s a w F ν) (h : vres P s fn.results.toList = some u) : ∃ v, (results fn a.tmps).run P w = .ok v w ∧ Rel F ν v u := by
  unfold vres at h
  cases hv : vress P s fn.results.toList with
  | none => simp [hv] at h
  | some us =>
    rw [hv] at h
    simp only [Option.map_some, Option.some.injEq] at h
    subst h
    obtain ⟨vs, h1, h2, h3⟩ := vress_run (P := P) hs _ _ hv
    have hrun : (results fn a.tmps).run P w = .ok (if h : vs.toArray.size = 1 then vs.toArray[0] else .tuple vs.toArray) w := by
      rw [results_eq, Array.mapM_eq_mapM_toList]
      simp only [map_eq_pure_bind, bind_assoc, pure_bind, Sem.run_bind, h1, Result.andThen, Sem.run_pure]
    refine ⟨_, hrun, ?_⟩
    match us, h2, h3 with
    | [u'], h2, h3 =>
      cases vs with
      | nil => simp at h2
      | cons v r => cases r with
        | nil => exact h3 0 v u' rfl rfl
        | cons v2 r2 => simp at h2
    | [], h2, h3 =>
      have : vs = [] := List.eq_nil_of_length_eq_zero h2
      subst this
      exact .tup [] [] rfl (fun j v u h => by simp at h)
    | u1 :: u2 :: r, h2, h3 =>
      have hn : ¬ (vs.toArray.size = 1) := fun hc => by
        rw [List.size_toArray, h2] at hc
        simp at hc
      rw [dif_neg hn]
      exact .tup vs _ h2 h3
end

def argσ (us : List V) : Nat → V := fun t => (us[t]?).getD .any
def argL : Nat → List V → List (Nat × V)
  | _, [] => []
  | i, u :: r => (i, u) :: argL (i + 1) r
theorem argL_ls (us : List V) : ∀ (i t : Nat), ls (argL i us) (i + t) = argσ us t := by
  induction us with
  | nil => intro i t; simp [argL, ls, argσ]
  | cons u r ih =>
    intro i t
    rw [argL, ls_cons]
    cases t with
    | zero => simp [argσ]
    | succ t =>
      rw [if_neg (by simp), show i + (t + 1) = (i + 1) + t by omega, ih]
      simp [argσ]

/-- A body's end. -/
def EndS (P : Program) (rs : List ResultVar) (u : V) (M' : Hp) (s : St) : Prop := vres P s rs = some u ∧ Sub M' s.M
def retQ (E : St → Prop) : Exit → St → Prop
  | .ret, s => E s
  | .normal, s => E s
  | _, _ => False

theorem Ok.sub {B : Gd} {F : Fz} {ν : Nu} {M M' : Hp} {w : World} (h : Ok B F ν M' w) (hM : Sub M M') : Ok B F ν M w :=
  ⟨h.fz, fun x o hx => h.ob x o (hM _ _ hx), fun x y o o' k k' a b => h.inj x y o o' k k' (hM _ _ a) (hM _ _ b), h.below, fun x o k a => h.live x o k (hM _ _ a), h.tab, h.ice⟩

theorem fs_start {P : Program} {f : Nat} {fn : Func} {c : Code} {us : List V} {M : Hp} {n : Nat} {u : V} {es : Eff} (nt : Nat) (rs : Array ResultVar) (hf : P.funcs[f]? = some fn) (hb : fn.body = some c) (hn : fn.ntmps = nt) (hr : fn.results = rs) (hl : Nat.ble us.length nt = true)
    (h : ∀ X, X.nt = nt → X.n = n → CW P X (retQ (EndS P rs.toList u (app es M))) [.code c] .normal ⟨ls (argL 0 us), M, n⟩) : FS P f us M n u es := by
  subst hn; subst hr
  have hl := Nat.ble_eq.mp hl
  intro w F ν args hok hnx hlen hargs
  refine calls_of_wp hf hb ?_
  have hs : Sim ⟨⟨w, F, own0 ν M⟩, fn.ntmps, F, ν, n⟩ ⟨argσ us, M, n⟩ { tmps := args.toArray ++ Array.replicate (fn.ntmps - args.toArray.size) undef, defers := [] } w F ν := by
    refine ⟨hok, hnx, fun t => ?_, by simp; omega, rfl, Fz.le_refl _, fun _ _ => rfl, Nat.le_refl _⟩
    simp only [argσ]
    cases hu : us[t]? with
    | none => exact .any _
    | some u =>
      obtain ⟨v, hv⟩ := get_of_length hlen hu
      have hlt := (List.getElem?_eq_some_iff.1 hv).1
      have : (args.toArray ++ Array.replicate (fn.ntmps - args.toArray.size) undef).getD t undef = v := by
        rw [Array.getD_eq_getD_getElem?, Array.getElem?_append_left (by simpa using hlt)]
        simp [hv]
      show Rel F ν (_ : Value) ((some u).getD .any)
      rw [this]
      exact hargs _ _ _ hv hu
  have e : ls (argL 0 us) = argσ us := by funext t; simpa using argL_ls us 0 t
  have h0 := h ⟨⟨w, F, own0 ν M⟩, fn.ntmps, F, ν, n⟩ rfl rfl
  rw [e] at h0
  refine wp_mono (h0 _ w F ν hs) fun e a' w' hx => ?_
  obtain ⟨s', F', ν', h1, h2⟩ := hx
  have main : EndS P fn.results.toList u (app es M) s' → a'.defers = [] ∧ ∃ v, (results fn a'.tmps).run P w' = .ok v w' ∧ ∃ v_1 F' ν', Ending.returned v = .returned v_1 ∧ Ok ⟨w, F, own0 ν M⟩ F' ν' (app es M) w' ∧ Fz.le F F' ∧ (∀ id, id < n → ν' id = ν id) ∧ Rel F' ν' v_1 u := by
    rintro ⟨hr, hM⟩
    refine ⟨h1.df, ?_⟩
    obtain ⟨v, hv, hrel⟩ := vres_run (P := P) h1 hr
    exact ⟨v, hv, v, F', ν', rfl, h1.ok.sub hM, h1.leF, h1.old, hrel⟩
  cases e with
  | ret => exact main h2
  | normal => exact main h2
  | _ => exact h2.elim
end Go.Ka
