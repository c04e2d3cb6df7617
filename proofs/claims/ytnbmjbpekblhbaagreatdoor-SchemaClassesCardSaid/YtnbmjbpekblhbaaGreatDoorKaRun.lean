/- Abstract states; what a step does where more objects are known; operations in their places; the text's order. -/
import Derived.Test.YtnbmjbpekblhbaaGreatDoorKaOps7
import Derived.Deep.LoopGhost
import Derived.Still
set_option linter.all false
namespace Go.Ka
open Go.RowKit
variable [Tab]

structure St where
  σ : Nat → V
  M : Hp
  nx : Nat

def upd (σ : Nat → V) : Option Nat → V → Nat → V
  | none, _ => σ
  | some t, v => fun x => bif Nat.beq x t then v else σ x
theorem upd_eq (σ : Nat → V) (d : Option Nat) (v : V) (t : Nat) : upd σ d v t = if some t = d then v else σ t := by
  cases d with
  | none => simp [upd]
  | some d =>
    simp only [upd, Option.some.injEq]
    by_cases h : t = d
    · subst h; simp
    · have : Nat.beq t d = false := by
        cases hb : Nat.beq t d with
        | false => rfl
        | true => exact absurd (Nat.eq_of_beq_eq_true hb) h
      simp [this, h]

/-- What is fixed while a body runs: where it began, the size of the frame, what was frozen, where the objects lay that it was handed. -/
structure Cx where
  B : Gd
  nt : Nat
  F : Fz
  ν : Nu
  n : Nat

structure Sim (X : Cx) (s : St) (a : Act) (w : World) (F : Fz) (ν : Nu) : Prop where
  ok : Ok X.B F ν s.M w
  nxt : ∀ id, s.nx ≤ id → ν id = none
  maps : Maps a F ν s.σ
  size : a.tmps.size = X.nt
  df : a.defers = []
  leF : Fz.le X.F F
  old : ∀ id, id < X.n → ν id = X.ν id
  le : X.n ≤ s.nx

def Awp (P : Program) (X : Cx) (c : Code) (s : St) (Q : Exit → St → Prop) : Prop :=
  ∀ a w F ν, Sim X s a w F ν → c.wp P (fun e a' w' => ∃ s' F' ν', Sim X s' a' w' F' ν' ∧ Q e s') a w

/-- A function that has a body, and is no stand-in of the run-time's. -/
def plain (P : Program) (f : Nat) : Bool := match P.funcs[f]? with
  | some fn => fn.body.isSome && !(fn.name == "runtime.NumGoroutine")
  | none => false

theorem callFunc_plain {P : Program} {f : Nat} {w : World} {args : Array Value} (h : plain P f = true) : (callFunc f args).run P w = .ok (.enter f args) w := by
  unfold plain at h
  cases hf : P.funcs[f]? with
  | none => simp [hf] at h
  | some fn =>
    simp only [hf, Bool.and_eq_true, Bool.not_eq_true', beq_eq_false_iff_ne] at h
    obtain ⟨b, hb⟩ := Option.isSome_iff_exists.1 h.1
    simp [callFunc, hf, h.2, hb]

def dstOk (nt : Nat) : Option Nat → Prop
  | some d => d < nt
  | none => True
def dstB (nt : Nat) : Option Nat → Bool
  | some d => Nat.blt d nt
  | none => true
theorem dstB_ok {nt : Nat} {d : Option Nat} (h : dstB nt d = true) : dstOk nt d := by
  cases d with
  | none => trivial
  | some d => simpa [dstB, dstOk, Nat.blt_eq] using h

theorem wp_of_false {P : Program} {o : Oper} {a : Act} {w : World} {K : Act → World → Prop} {Q : Exit → Act → World → Prop} (h : o.wp P a w K (fun _ _ _ => False)) : o.wp P a w K Q := by
  unfold Oper.wp at *
  generalize (execOp a.eval o).run P w = r at *
  cases r with
  | ok n w' =>
    cases n <;> simp only [Oper.upon] at h ⊢ <;> first
      | exact h
      | exact Calls.mono h (fun e w'' he => by cases e <;> first | exact he | exact he.elim | (obtain ⟨_, _, hf⟩ := he; exact hf.elim))
  | halt x w' => cases x <;> simp only [Oper.upon] at h

theorem maps_put {a : Act} {F : Fz} {ν : Nu} {σ : Nat → V} {d : Option Nat} {v : Value} {u : V} (hm : Maps a F ν σ) (hd : dstOk a.tmps.size d) (hr : Rel F ν v u) : Maps (a.put d v) F ν (upd σ d u) := by
  intro t
  rw [upd_eq]
  cases d with
  | none => simpa [Act.put] using hm t
  | some d =>
    have hd' : d < a.tmps.size := hd
    by_cases e : t = d
    · subst e
      simp only [Act.put, if_true]
      rw [Array.getD_eq_getD_getElem?, Array.getElem?_setIfInBounds]
      simp [hd', hr]
    · have e1 : ¬ (some t = some d) := fun h => e (Option.some.inj h)
      simp only [Act.put, e1, if_false]
      rw [Array.getD_eq_getD_getElem?, Array.getElem?_setIfInBounds_ne (Ne.symm e), ← Array.getD_eq_getD_getElem?]
      exact hm t

theorem put_size (a : Act) (d : Option Nat) (v : Value) : (a.put d v).tmps.size = a.tmps.size := by cases d <;> simp [Act.put]
theorem put_df (a : Act) (d : Option Nat) (v : Value) : (a.put d v).defers = a.defers := by cases d <;> rfl

theorem Maps.mono {a : Act} {F F' : Fz} {ν ν' : Nu} {σ : Nat → V} (h : Maps a F ν σ) (hF : Fz.le F F') (hN : Nu.le ν ν') : Maps a F' ν' σ := fun t => (h t).mono hF hN

/-- One step's end is the next one's beginning. -/
theorem Sim.step {X : Cx} {n : Nat} {σ : Nat → V} {M M' : Hp} {a : Act} {w w' : World} {F F' : Fz} {ν ν' : Nu} (h : Sim X ⟨σ, M, n⟩ a w F ν) {d : Option Nat} {v : Value} {u : V} (hd : dstOk X.nt d) (hok : Ok X.B F' ν' M' w') (hF : Fz.le F F') (hN : Nu.le ν ν')
    (hn : ∀ x, x ≠ n → ν' x = ν x) (hr : Rel F' ν' v u) : Sim X ⟨upd σ d u, M', n + 1⟩ (a.put d v) w' F' ν' := by
  refine ⟨hok, fun id hid => ?_, maps_put (h.maps.mono hF hN) (by rw [h.size]; exact hd) hr, by rw [put_size]; exact h.size, by rw [put_df]; exact h.df, Fz.le_trans h.leF hF, fun id hid => ?_, ?_⟩
  · dsimp only at hid
    rw [hn id (by omega)]
    exact h.nxt id (by dsimp only; omega)
  · have := h.le
    dsimp only at this
    rw [hn id (by omega)]
    exact h.old id hid
  · have := h.le
    dsimp only at this ⊢
    omega

/-! ### Where more objects are known -/
def Sub (M M' : Hp) : Prop := ∀ x o, M x = some o → M' x = some o
theorem Sub.refl (M : Hp) : Sub M M := fun _ _ h => h
theorem Sub.trans {M M' M'' : Hp} (h : Sub M M') (h' : Sub M' M'') : Sub M M'' := fun _ _ x => h' _ _ (h _ _ x)

theorem pcells_mono {M M' : Hp} (hs : Sub M M') {u : V} {cs : List V} (h : pcells M u = some cs) : pcells M' u = some cs := by
  unfold pcells at *
  split at h
  · exact h
  · rename_i i j off
    cases hm : M i with
    | none => simp [hm] at h
    | some o => simp only [hs _ _ hm]; simpa [hm] using h
  · cases h

theorem vels_mono {M M' : Hp} (hs : Sub M M') {sz : Nat} {u : V} {cs : List (List V)} (h : vels M sz u = some cs) : vels M' sz u = some cs := by
  unfold vels at *
  split at h
  · exact h
  · rename_i i a n
    cases hm : M i with
    | none => simp [hm] at h
    | some o => simp only [hs _ _ hm]; simpa [hm] using h
  · exact h
  · cases h

theorem vbase_mono {M M' : Hp} (hs : Sub M M') {sz : Nat} {u : V} {r : List (List V) × Option Nat} (h : vbase M sz u = some r) : vbase M' sz u = some r := by
  unfold vbase at *
  split at h
  · exact h
  · rename_i i n
    cases hm : M i with
    | none => simp [hm] at h
    | some o => simp only [hs _ _ hm]; simpa [hm] using h
  · cases h

theorem vidx_mono {M M' : Hp} (hs : Sub M M') {sz n : Nat} {u u' : V} (h : vidx M sz u n = some u') : vidx M' sz u n = some u' := by
  unfold vidx at *
  split at h
  · exact h
  · rename_i i a m
    split at h
    · rename_i hlt
      rw [if_pos hlt]
      cases hm : M i with
      | none => simp [hm] at h
      | some o => simp only [hs _ _ hm]; simpa [hm] using h
    · cases h
  · cases h

theorem vcut_mono {M M' : Hp} (hs : Sub M M') {sz l r : Nat} {u u' : V} (h : vcut M sz u l r = some u') : vcut M' sz u l r = some u' := by
  unfold vcut at *
  split at h
  · exact h
  · rename_i i a m
    split at h
    · rename_i hlt
      rw [if_pos hlt]
      cases hm : M i with
      | none => simp [hm] at h
      | some o => simp only [hs _ _ hm]; simpa [hm] using h
    · cases h
  · exact h
  · cases h

theorem ev_congr {σ σ' : Nat → V} {x : Operand} (h : ∀ t, x = .tmp t → σ t = σ' t) : ev σ x = ev σ' x := by
  cases x with
  | tmp t => exact h t rfl
  | _ => rfl
theorem evl_congr {σ σ' : Nat → V} {l : List Operand} (h : ∀ x ∈ l, ev σ x = ev σ' x) : l.map (ev σ) = l.map (ev σ') := List.map_congr_left h
theorem vbd_congr {σ σ' : Nat → V} {lo : Option Operand} {d : Nat} (h : ∀ x ∈ lo.toList, ev σ x = ev σ' x) : vbd σ lo d = vbd σ' lo d := by
  cases lo with
  | none => rfl
  | some x => simp only [vbd, h x (by simp)]

/-- What becomes of objects. -/
abbrev Eff := List (Nat × Option Ob)
def app : Eff → Hp → Hp
  | [], M => M
  | e :: r, M => app r (setM M e.1 e.2)
def dropE : Option Nat → Eff
  | none => []
  | some i => [(i, none)]
theorem app_append (a b : Eff) (M : Hp) : app (a ++ b) M = app b (app a M) := by
  induction a generalizing M with
  | nil => rfl
  | cons e r ih => exact ih _
theorem app_dropE (oi : Option Nat) (id : Nat) (o : Option Ob) (M : Hp) : app (dropE oi ++ [(id, o)]) M = setM (dropM M oi) id o := by cases oi <;> rfl

def Yl (P : Program) (o : Oper) (σ : Nat → V) (M : Hp) (id : Nat) (u : V) (es : Eff) : Prop :=
  ∀ B M', Sub M M' → OpW P B o σ M' id fun u' M'' => u' = u ∧ M'' = app es M'

/-! ### A region's operations -/
/-- What an operation comes to. -/
structure Yd where
  u : V
  es : Eff

structure Rg where
  P : Program
  nt : Nat
  ops : Array Oper
  n0 : Nat
  h : Nat → List Nat
  t : Nat → Option (List Nat)

def hideL (l : List Nat) (M : Hp) : Hp := fun x => bif l.elem x then none else M x
theorem hideL_eq (l : List Nat) (M : Hp) (x : Nat) : hideL l M x = if l.contains x then none else M x := by
  unfold hideL
  rw [List.elem_eq_contains]
  cases l.contains x <;> rfl
theorem hideL_sub (l : List Nat) (M : Hp) : Sub (hideL l M) M := fun x o h => by
  rw [hideL_eq] at h
  split at h
  · cases h
  · exact h

/-- The slots that an operation looks at, and no other. -/
def see (ops : Array Oper) (o : Oper) (σ : Nat → V) : Nat → V := fun t => if (o.looksAt ops).contains t then σ t else .any

theorem ev_see {ops : Array Oper} {o : Oper} {σ : Nat → V} {x : Operand} (h : x ∈ o.op.operands.toList) : ev (see ops o σ) x = ev σ x := by
  refine ev_congr fun t e => ?_
  subst e
  unfold see
  rw [if_pos]
  simp only [Oper.looksAt, List.contains_iff_mem, List.mem_append, List.mem_filterMap]
  exact .inl ⟨.tmp t, h, rfl⟩

theorem maps_see {ops : Array Oper} {o : Oper} {σ : Nat → V} {a : Act} {F : Fz} {ν : Nu} (h : Maps a F ν σ) : Maps a F ν (see ops o σ) := fun t => by
  unfold see
  split
  · exact h t
  · exact .any _

/-- An operation in its place: it may be guarded. -/
def OpD (G : Rg) (o : Oper) (σ : Nat → V) (M : Hp) (id : Nat) (d : Yd) : Prop :=
  match o.guard with
  | none => Yl G.P o (see G.ops o σ) M id d.u d.es
  | some (j, want) => ∃ t, (G.ops[j]?).bind (·.dst) = some t ∧ ((σ t = .tup [] ∧ d = ⟨.tup [], []⟩) ∨
      ∃ b, σ t = .val (.bool b) ∧ (b = want → Yl G.P o (see G.ops o σ) M id d.u d.es) ∧ (b ≠ want → d = ⟨.tup [], []⟩))

def tOk (l : Option (List Nat)) (es : Eff) : Bool := match l with
  | none => true
  | some l => es.all fun e => l.contains e.1

/-- The operations in the text's order. -/
def Lx (G : Rg) : List Oper → Nat → (Nat → V) → Hp → List Yd → (Nat → V) → Hp → Prop
  | [], _, σ, M, [], σ', M' => σ' = σ ∧ M' = M
  | o :: os, i, σ, M, d :: ds, σ', M' => dstOk G.nt o.dst ∧ OpD G o σ (hideL (G.h i) M) (G.n0 + i) d ∧ tOk (G.t i) d.es = true ∧ Lx G os (i + 1) (upd σ o.dst d.u) (app d.es M) ds σ' M'
  | _, _, _, _, _, _, _ => False

theorem upd_other {σ : Nat → V} {d : Option Nat} {u : V} {t : Nat} (h : d ≠ some t) : upd σ d u t = σ t := by
  rw [upd_eq, if_neg (fun e => h e.symm)]

theorem Lx.len {G : Rg} : ∀ {os : List Oper} {i : Nat} {σ σ' : Nat → V} {M M' : Hp} {ds : List Yd}, Lx G os i σ M ds σ' M' → ds.length = os.length := by
  intro os
  induction os with
  | nil =>
    intro i σ σ' M M' ds h
    cases ds with
    | nil => rfl
    | cons => exact h.elim
  | cons o os ih =>
    intro i σ σ' M M' ds h
    cases ds with
    | nil => exact h.elim
    | cons d ds => simp [ih h.2.2.2]

/-- One step's end is the next one's beginning: in its place, by its number. -/
theorem opD_step {G : Rg} {X : Cx} {R : Exit → Act → World → Prop} {o : Oper} {σ : Nat → V} {M : Hp} {n : Nat} {d : Yd} {a : Act} {w : World} {F : Fz} {ν : Nu} {l : List Nat} (hok : Ok X.B F ν M w) (hid : ν n = none) (hN : ∃ N, ∀ x, N ≤ x → ν x = none) (hm : Maps a F ν σ)
    (h : OpD G o σ (hideL l M) n d) {K : Act → World → Prop} (hK : ∀ v w' F' ν', Ok X.B F' ν' (app d.es M) w' → Fz.le F F' → Nu.le ν ν' → (∀ x, x ≠ n → ν' x = ν x) → Rel F' ν' v d.u → K (a.put o.dst v) w') :
    if Region.wanted o (yielded G.ops a.tmps) then o.wp G.P a w K R ∨ (o.asks G.P a w ∧ LetsOut R) else K (a.put o.dst undef) w := by
  have go : Yl G.P o (see G.ops o σ) (hideL l M) n d.u d.es → o.wp G.P a w K R := fun hy => by
    refine Oper.wp_mono ?_ (wp_of_false (hy X.B M (hideL_sub l M) a w F ν hok hid hN (maps_see hm)))
    rintro a' w' ⟨v, u, M', F', ν', rfl, ⟨rfl, rfl⟩, hok, hF, hN, hn, hrel⟩
    exact hK v w' F' ν' hok hF hN hn hrel
  have no : d = ⟨.tup [], []⟩ → K (a.put o.dst undef) w := fun e => by
    subst e
    exact hK undef w F ν hok (Fz.le_refl _) (Nu.le_refl _) (fun _ _ => rfl) (.tup [] [] rfl (fun j v u h => by simp at h))
  unfold OpD at h
  split at h
  · rename_i hg
    rw [if_pos (by simp [Region.wanted, hg])]
    exact .inl (go h)
  · rename_i j want hg
    obtain ⟨t, hj, h⟩ := h
    rcases h with ⟨ht, he⟩ | ⟨b, ht, h1, h2⟩
    · have hrel := hm t
      rw [ht] at hrel
      have hy : yielded G.ops a.tmps j = none := by
        unfold yielded
        rw [hj]
        simp only [Option.bind_some]
        cases hq : a.tmps[t]? with
        | none => rfl
        | some q =>
          rw [Array.getD_eq_getD_getElem?, hq] at hrel
          simp only [Option.getD_some] at hrel
          cases hrel
          rfl
      rw [if_neg (by simp [Region.wanted, hg, hy])]
      exact no he
    · have hrel := hm t
      rw [ht] at hrel
      have hv := rel_val hrel
      have hy : yielded G.ops a.tmps j = some b := by
        unfold yielded
        rw [hj]
        simp only [Option.bind_some]
        have : a.tmps[t]? = some (.bool b) := by
          rw [Array.getD_eq_getD_getElem?] at hv
          cases hq : a.tmps[t]? with
          | none => rw [hq] at hv; simp [undef] at hv
          | some q => rw [hq] at hv; simpa using hv
        rw [this]
      by_cases hb : b = want
      · rw [if_pos (by simp [Region.wanted, hg, hy, hb])]
        exact .inl (go (h1 hb))
      · rw [if_neg (by simp [Region.wanted, hg, hy, hb])]
        exact no (h2 hb)

theorem lx_region {G : Rg} {X : Cx} {R : Exit → Act → World → Prop} {σ' : Nat → V} {M' : Hp} (hnt : X.nt = G.nt) (hK : ∀ a w F ν, Sim X ⟨σ', M', G.n0 + G.ops.size⟩ a w F ν → R .normal a w) :
    ∀ (os : List Oper) (i : Nat) (σ : Nat → V) (M : Hp) (ds : List Yd) (a : Act) (w : World) (F : Fz) (ν : Nu), os = G.ops.toList.drop i → Lx G os i σ M ds σ' M' → Sim X ⟨σ, M, G.n0 + i⟩ a w F ν → i ≤ G.ops.size →
    wpOps G.P G.ops R (List.range' i (G.ops.size - i)) a w := by
  intro os
  induction os with
  | nil =>
    intro i σ M ds a w F ν ho h hs hi
    have : G.ops.size ≤ i := by
      have := congrArg List.length ho
      simp at this
      omega
    have e : i = G.ops.size := by omega
    have : G.ops.size - i = 0 := by omega
    rw [this]
    cases ds with
    | nil => obtain ⟨rfl, rfl⟩ := h; subst e; exact hK _ _ _ _ hs
    | cons => exact h.elim
  | cons o os ih =>
    intro i σ M ds a w F ν ho h hs hi
    cases ds with
    | nil => exact h.elim
    | cons d ds =>
      have hi : i < G.ops.size := by
        have := congrArg List.length ho
        simp at this
        omega
      have hoi : G.ops[i]? = some o := by
        have h1 : (G.ops.toList.drop i)[0]? = some o := by rw [← ho]; rfl
        rw [List.getElem?_drop] at h1
        simpa using h1
      have hos : os = G.ops.toList.drop (i + 1) := by
        have h1 := congrArg List.tail ho
        simpa using h1
      have hr : List.range' i (G.ops.size - i) = i :: List.range' (i + 1) (G.ops.size - (i + 1)) := by
        have : G.ops.size - i = (G.ops.size - (i + 1)) + 1 := by omega
        rw [this, List.range'_succ]
      rw [hr]
      simp only [wpOps, hoi]
      obtain ⟨h1, h2, _, h4⟩ := h
      refine opD_step (X := X) hs.ok (hs.nxt _ (Nat.le_refl _)) ⟨_, hs.nxt⟩ hs.maps h2 fun v w' F' ν' hok hF hN hn hrel => ?_
      exact ih (i + 1) _ _ ds _ _ F' ν' hos h4 (hs.step (by rw [hnt]; exact h1) hok hF hN hn hrel) hi

/-- Its guard, if it has one, is on. -/
def GOn (G : Rg) (o : Oper) (σ : Nat → V) : Prop := match o.guard with
  | none => True
  | some (j, want) => ∃ t, (G.ops[j]?).bind (·.dst) = some t ∧ σ t = .val (.bool want)
/-- What a step is asked besides its outcome. -/
structure Ck (G : Rg) (o : Oper) (i : Nat) (σ : Nat → V) (es : Eff) : Prop where
  d : dstOk G.nt o.dst
  t : tOk (G.t i) es = true
  g : GOn G o σ
theorem k0 {G : Rg} {o : Oper} {i : Nat} {σ : Nat → V} {es : Eff} (h : (dstB G.nt o.dst && tOk (G.t i) es && o.guard.isNone) = true) : Ck G o i σ es := by
  simp only [Bool.and_eq_true, Option.isNone_iff_eq_none] at h
  exact ⟨dstB_ok h.1.1, h.1.2, by unfold GOn; rw [h.2]; trivial⟩
theorem k1 {G : Rg} {o : Oper} {i j t : Nat} {want : Bool} {σ : Nat → V} {es : Eff} (h : (dstB G.nt o.dst && tOk (G.t i) es) = true) (hg : o.guard = some (j, want)) (ht : (G.ops[j]?).bind (·.dst) = some t) (hv : σ t = .val (.bool want)) : Ck G o i σ es := by
  simp only [Bool.and_eq_true] at h
  exact ⟨dstB_ok h.1, h.2, by unfold GOn; rw [hg]; exact ⟨t, ht, hv⟩⟩

section
variable {G : Rg} {o : Oper} {os : List Oper} {i : Nat} {σ σ' : Nat → V} {M M' : Hp} {u : V} {es : Eff} {ds : List Yd}
/-- A step that is made. -/
theorem lx_on (c : Ck G o i σ es) (h : Yl G.P o (see G.ops o σ) (hideL (G.h i) M) (G.n0 + i) u es) (r : Lx G os (i + 1) (upd σ o.dst u) (app es M) ds σ' M') : Lx G (o :: os) i σ M (⟨u, es⟩ :: ds) σ' M' := by
  refine ⟨c.d, ?_, c.t, r⟩
  have g := c.g
  unfold GOn at g
  unfold OpD
  split at g
  · exact h
  · rename_i j want hg
    obtain ⟨t, h1, h2⟩ := g
    exact ⟨t, h1, .inr ⟨want, h2, fun _ => h, fun e => absurd rfl e⟩⟩
theorem tOk_nil (l : Option (List Nat)) : tOk l [] = true := by cases l <;> rfl
/-- A step that its guard lets out. -/
theorem lx_off {j t : Nat} {want : Bool} (hg : o.guard = some (j, want)) (ht : (G.ops[j]?).bind (·.dst) = some t) (hv : σ t = .val (.bool (!want))) (hd : dstB G.nt o.dst = true) (r : Lx G os (i + 1) (upd σ o.dst (.tup [])) M ds σ' M') : Lx G (o :: os) i σ M (⟨.tup [], []⟩ :: ds) σ' M' := by
  refine ⟨dstB_ok hd, ?_, tOk_nil _, r⟩
  unfold OpD
  rw [hg]
  exact ⟨t, ht, .inr ⟨!want, hv, fun e => absurd e (by cases want <;> decide), fun _ => rfl⟩⟩
/-- A step whose guard was let out. -/
theorem lx_dead {j t : Nat} {want : Bool} (hg : o.guard = some (j, want)) (ht : (G.ops[j]?).bind (·.dst) = some t) (hv : σ t = .tup []) (hd : dstB G.nt o.dst = true) (r : Lx G os (i + 1) (upd σ o.dst (.tup [])) M ds σ' M') : Lx G (o :: os) i σ M (⟨.tup [], []⟩ :: ds) σ' M' := by
  refine ⟨dstB_ok hd, ?_, tOk_nil _, r⟩
  unfold OpD
  rw [hg]
  exact ⟨t, ht, .inl ⟨hv, rfl⟩⟩
theorem lx_nil : Lx G [] i σ M [] σ M := ⟨rfl, rfl⟩
end
end Go.Ka
