/- Every order of a region. -/
import Derived.Test.YtnbmjbpekblhbaaGreatDoorKaRun
import Derived.Orders
set_option linter.all false
namespace Go.Ka
open Go.RowKit
variable [Tab]

def ids (es : Eff) : List Nat := es.map (·.1)

theorem app_other {es : Eff} {M : Hp} {x : Nat} (h : x ∉ ids es) : app es M x = M x := by
  induction es generalizing M with
  | nil => rfl
  | cons e r ih =>
    simp only [ids, List.map_cons, List.mem_cons, not_or] at h
    exact (ih (M := setM M e.1 e.2) h.2).trans (setM_ne h.1)

theorem app_at {es : Eff} {M M' : Hp} {x : Nat} (h : x ∈ ids es) : app es M x = app es M' x := by
  induction es generalizing M M' with
  | nil => simp [ids] at h
  | cons e r ih =>
    by_cases hr : x ∈ ids r
    · exact ih hr
    · simp only [ids, List.map_cons, List.mem_cons] at h
      rcases h with rfl | h
      · show app r _ _ = app r _ _
        rw [app_other hr, app_other hr, setM_same, setM_same]
      · exact absurd h hr

theorem app_comm {a b : Eff} (M : Hp) (h : ∀ x ∈ ids a, x ∉ ids b) : app a (app b M) = app b (app a M) := by
  funext x
  by_cases ha : x ∈ ids a
  · rw [app_other (h x ha), app_at (M' := M) ha]
  · rw [app_other ha]
    by_cases hb : x ∈ ids b
    · exact app_at hb
    · rw [app_other hb, app_other hb, app_other ha]

theorem hide_app {es : Eff} {l : List Nat} {M : Hp} (h : ∀ x ∈ ids es, x ∈ l) : hideL l (app es M) = hideL l M := by
  funext x
  rw [hideL_eq, hideL_eq]
  split
  · rfl
  · rename_i hx
    exact app_other fun hm => hx (by simpa using h x hm)

theorem see_upd {ops : Array Oper} {o : Oper} {σ : Nat → V} {d : Option Nat} {u : V} (h : ∀ x, d = some x → x ∉ o.looksAt ops) : see ops o (upd σ d u) = see ops o σ := by
  funext t
  unfold see
  split
  · rename_i ht
    exact upd_other fun e => h t e (by simpa using ht)
  · rfl

theorem opD_upd {G : Rg} {o : Oper} {σ : Nat → V} {M : Hp} {id : Nat} {y : Yd} {d : Option Nat} {u : V} (h : ∀ x, d = some x → x ∉ o.looksAt G.ops) : OpD G o (upd σ d u) M id y ↔ OpD G o σ M id y := by
  unfold OpD
  rw [see_upd h]
  split
  · exact Iff.rfl
  · rename_i j want hg
    have : ∀ t, (G.ops[j]?).bind (·.dst) = some t → upd σ d u t = σ t := fun t ht => upd_other fun e => h t e (by
      simp only [Oper.looksAt, hg, List.mem_append]
      exact .inr (by rw [ht]; simp))
    constructor
    · rintro ⟨t, ht, hx⟩
      rw [this t ht] at hx
      exact ⟨t, ht, hx⟩
    · rintro ⟨t, ht, hx⟩
      exact ⟨t, ht, by rw [this t ht]; exact hx⟩

theorem upd_comm {σ : Nat → V} {d d' : Option Nat} {u u' : V} (h : ∀ x, d = some x → d' ≠ some x) : upd (upd σ d u) d' u' = upd (upd σ d' u') d u := by
  funext t
  simp only [upd_eq]
  by_cases h1 : some t = d
  · have : ¬ (some t = d') := fun e => h t h1.symm e.symm
    simp [h1]
    subst h1
    simp [this]
  · simp [h1]

section
variable {G : Rg} {ds : List Yd} {Q : (Nat → V) → Hp → Prop}

/-- Whatever comes next comes to what is told of it. -/
def An (G : Rg) (ds : List Yd) (Q : (Nat → V) → Hp → Prop) : Nat → Array Bool → (Nat → V) → Hp → Prop
  | 0, listed, σ, M => Region.ready .any G.ops listed = [] ∧ Q σ M
  | fuel + 1, listed, σ, M => (Region.ready .any G.ops listed = [] → Q σ M) ∧
    ∀ i ∈ Region.ready .any G.ops listed, ∃ o d, G.ops[i]? = some o ∧ ds[i]? = some d ∧ dstOk G.nt o.dst ∧ OpD G o σ (hideL (G.h i) M) (G.n0 + i) d ∧ An G ds Q fuel (listed.setIfInBounds i true) (upd σ o.dst d.u) (app d.es M)

/-- Two operations that do not touch each other. -/
def Sep (G : Rg) (i j : Nat) (oi oj : Oper) (di dj : Yd) : Prop :=
  oi.apart G.ops oj = true ∧ (∀ x ∈ ids di.es, x ∈ G.h j ∧ x ∉ ids dj.es) ∧ ∀ x ∈ ids dj.es, x ∈ G.h i

theorem An_first {i : Nat} {oi : Oper} {di : Yd} (hi : G.ops[i]? = some oi) (hdi : ds[i]? = some di) (S : List Nat) (hiS : i ∈ S) (hS : ∀ k ∈ S, k ≠ i → ∃ o, G.ops[k]? = some o ∧ ∃ e ∈ o.after, Region.binds .any e = true ∧ e.on ∈ S) :
    ∀ (fuel : Nat) (listed : Array Bool) (σ : Nat → V) (M : Hp), (∀ k ∈ S, listed.getD k false = false) →
      (∀ j oj dj, G.ops[j]? = some oj → ds[j]? = some dj → j ∉ S → listed.getD j true = false → Sep G i j oi oj di dj) →
      i ∈ Region.ready .any G.ops listed → dstOk G.nt oi.dst → OpD G oi σ (hideL (G.h i) M) (G.n0 + i) di →
      An G ds Q fuel (listed.setIfInBounds i true) (upd σ oi.dst di.u) (app di.es M) → An G ds Q (fuel + 1) listed σ M := by
  intro fuel
  induction fuel with
  | zero =>
    intro listed σ M _ _ hr hd hy H
    refine ⟨fun h => (by rw [h] at hr; cases hr), fun j hj => ?_⟩
    by_cases hji : j = i
    · subst hji; exact ⟨oi, di, hi, hdi, hd, hy, H⟩
    · have := ready_mono hj hji
      rw [H.1] at this
      cases this
  | succ fuel ih =>
    intro listed σ M hun hfree hr hd hy H
    refine ⟨fun h => (by rw [h] at hr; cases hr), fun j hj => ?_⟩
    by_cases hji : j = i
    · subst hji; exact ⟨oi, di, hi, hdi, hd, hy, H⟩
    · obtain ⟨oj, dj, hoj, hdj, hdd, h1, h2⟩ := H.2 j (ready_mono hj hji)
      obtain ⟨hjun, oj', hoj', hall⟩ := mem_ready.1 hj
      rw [hoj] at hoj'
      cases hoj'
      have hjS : j ∉ S := fun hjS => by
        obtain ⟨o, ho, e, he, hb, hes⟩ := hS j hjS hji
        rw [hoj] at ho
        cases ho
        have := hall e he hb
        rw [hun _ hes] at this
        cases this
      obtain ⟨hap, hs1, hs2⟩ := hfree j oj dj hoj hdj hjS hjun
      obtain ⟨a1, a2, a3⟩ := Oper.apart_spec hap
      have hjj : OpD G oj σ (hideL (G.h j) M) (G.n0 + j) dj := by
        rw [hide_app (fun x hx => (hs1 x hx).1)] at h1
        exact (opD_upd a1).1 h1
      refine ⟨oj, dj, hoj, hdj, hdd, hjj, ih (listed.setIfInBounds j true) _ _ (fun k hk => ?_) (fun k ok dk hk hdk hkS hkun => ?_) (ready_mono hr (Ne.symm hji)) hd ?_ ?_⟩
      · have hkj : j ≠ k := fun e => hjS (e ▸ hk)
        rw [getD_set_ne false hkj]
        exact hun k hk
      · refine hfree k ok dk hk hdk hkS ?_
        by_cases hjk : j = k
        · subst hjk; exact hjun
        · rw [getD_set_ne true hjk] at hkun; exact hkun
      · rw [hide_app hs2]
        exact (opD_upd a3).2 hy
      · rw [Array.setIfInBounds_comm _ _ hji, ← upd_comm a2, ← app_comm M fun x hx hm => (hs1 x hm).2 hx]
        exact h2

/-- The orders' own work: which operations may touch which objects, all by codes. -/
def look (T : List (Nat × List Nat)) (i : Nat) : List Nat := match T.find? (fun p => p.1 == i) with
  | some p => p.2
  | none => []
def dec (n0 sz : Nat) (olds : List Nat) (c : Nat) : Nat := if c < sz then n0 + c else olds.getD (c - sz) 0
def deps : List Oper → Nat → List Nat → List Nat
  | [], _, acc => acc
  | o :: os, j, acc => deps os (j + 1) (if o.after.any (fun e => Region.binds .any e && acc.contains e.on) then j :: acc else acc)

def pairOk (ops : Array Oper) (T H : List (Nat × List Nat)) (bar : List Nat) (i j : Nat) (oi oj : Oper) : Bool :=
  oi.apart ops oj && !bar.contains i && !bar.contains j && (look T i).all (fun c => (look H j).contains c && !(look T j).contains c) && (look T j).all (fun c => (look H i).contains c)

def rowOk (ops : Array Oper) (T H : List (Nat × List Nat)) (bar : List Nat) (no i : Nat) (oi : Oper) (S : List Nat) : Bool :=
  oi.after.all (fun e => !Region.binds .any e || decide (e.on < i)) && S.contains i &&
    S.all (fun k => decide (i ≤ k) && (k == i || (match ops[k]? with
      | some o => o.after.any (fun e => Region.binds .any e && S.contains e.on)
      | none => false))) &&
    (List.range ops.size).all (fun j => decide (j ≤ i) || S.contains j || (match ops[j]? with
      | some oj => pairOk ops T H bar i j oi oj
      | none => false)) && (look T i).all (fun c => decide (c < ops.size + no))

def stat (ops : Array Oper) (T H : List (Nat × List Nat)) (bar : List Nat) (no : Nat) : Bool :=
  (List.range ops.size).all fun i => match ops[i]? with
    | some oi => rowOk ops T H bar no i oi (deps ops.toList 0 [i])
    | none => false

theorem dec_inj {n0 sz : Nat} {olds : List Nat} (h1 : ∀ x ∈ olds, x < n0) (h2 : olds.Nodup) {c c' : Nat} (hc : c < sz + olds.length) (hc' : c' < sz + olds.length) (h : dec n0 sz olds c = dec n0 sz olds c') : c = c' := by
  unfold dec at h
  have lt : ∀ k, k < olds.length → olds.getD k 0 < n0 := fun k hk => h1 _ (by rw [List.getD_eq_getElem?_getD, List.getElem?_eq_getElem hk]; exact List.getElem_mem hk)
  split at h <;> split at h
  · omega
  · have := lt (c' - sz) (by omega); omega
  · have := lt (c - sz) (by omega); omega
  · have e1 : c - sz < olds.length := by omega
    have e2 : c' - sz < olds.length := by omega
    rw [List.getD_eq_getElem?_getD, List.getD_eq_getElem?_getD, List.getElem?_eq_getElem e1, List.getElem?_eq_getElem e2] at h
    simp only [Option.getD_some] at h
    have hp := List.pairwise_iff_getElem.1 h2
    rcases Nat.lt_trichotomy (c - sz) (c' - sz) with hlt | he | hlt
    · exact absurd h (hp _ _ e1 e2 hlt)
    · omega
    · exact absurd h.symm (hp _ _ e2 e1 hlt)

/-- A region that draws its order. -/
def anyG (P : Program) (nt : Nat) (ops : Array Oper) (n0 : Nat) (olds : List Nat) (T H : List (Nat × List Nat)) (bar : List Nat) : Rg :=
  ⟨P, nt, ops, n0, fun i => (look H i).map (dec n0 ops.size olds), fun i => if bar.contains i then none else some ((look T i).map (dec n0 ops.size olds))⟩

theorem Lx.tok {G : Rg} : ∀ {os : List Oper} {i : Nat} {σ σ' : Nat → V} {M M' : Hp} {ds : List Yd}, Lx G os i σ M ds σ' M' → ∀ k d, ds[k]? = some d → tOk (G.t (i + k)) d.es = true := by
  intro os
  induction os with
  | nil =>
    intro i σ σ' M M' ds h k d hd
    cases ds with
    | nil => simp at hd
    | cons => exact h.elim
  | cons o os ih =>
    intro i σ σ' M M' ds h k d hd
    cases ds with
    | nil => exact h.elim
    | cons d0 ds =>
      obtain ⟨_, _, h3, h4⟩ := h
      cases k with
      | zero => simp at hd; subst hd; exact h3
      | succ k => have := ih h4 k d (by simpa using hd); rwa [Nat.add_assoc, Nat.add_comm 1 k] at this

theorem ids_tok {l : List Nat} {es : Eff} (h : tOk (some l) es = true) : ∀ x ∈ ids es, x ∈ l := by
  intro x hx
  simp only [tOk, List.all_eq_true, List.contains_iff_mem] at h
  obtain ⟨e, he, rfl⟩ := List.mem_map.1 hx
  exact h e he

theorem sep_of {P : Program} {nt n0 i j : Nat} {ops : Array Oper} {olds bar : List Nat} {T H : List (Nat × List Nat)} {oi oj : Oper} {di dj : Yd} (h1 : ∀ x ∈ olds, x < n0) (h2 : olds.Nodup) (hp : pairOk ops T H bar i j oi oj = true)
    (ci : ∀ c ∈ look T i, c < ops.size + olds.length) (cj : ∀ c ∈ look T j, c < ops.size + olds.length)
    (ti : tOk ((anyG P nt ops n0 olds T H bar).t i) di.es = true) (tj : tOk ((anyG P nt ops n0 olds T H bar).t j) dj.es = true) : Sep (anyG P nt ops n0 olds T H bar) i j oi oj di dj := by
  simp only [pairOk, Bool.and_eq_true, Bool.not_eq_true', List.all_eq_true, List.contains_iff_mem] at hp
  obtain ⟨⟨⟨⟨hap, hbi⟩, hbj⟩, hi⟩, hj⟩ := hp
  simp only [anyG, hbi, hbj] at ti tj
  have mi := ids_tok ti
  have mj := ids_tok tj
  refine ⟨hap, fun x hx => ?_, fun x hx => ?_⟩
  · obtain ⟨c, hc, rfl⟩ := List.mem_map.1 (mi x hx)
    obtain ⟨g1, g2⟩ := hi c hc
    refine ⟨List.mem_map.2 ⟨c, g1, rfl⟩, fun hx' => ?_⟩
    obtain ⟨c', hc', e⟩ := List.mem_map.1 (mj _ hx')
    have := dec_inj h1 h2 (cj c' hc') (ci c hc) e
    subst this
    simp [hc'] at g2
  · obtain ⟨c, hc, rfl⟩ := List.mem_map.1 (mj x hx)
    exact List.mem_map.2 ⟨c, hj c hc, rfl⟩

theorem getD_lt {a : Array Bool} {k : Nat} {b c : Bool} (h : a[k]? = some b) : a.getD k c = b := by
  rw [Array.getD_eq_getD_getElem?, h]; rfl

theorem An_lex {P : Program} {nt n0 : Nat} {ops : Array Oper} {olds bar : List Nat} {T H : List (Nat × List Nat)} {ds : List Yd} {σ' : Nat → V} {M' : Hp} (h1 : ∀ x ∈ olds, x < n0) (h2 : olds.Nodup) (hst : stat ops T H bar olds.length = true)
    (htok : ∀ k d, ds[k]? = some d → tOk ((anyG P nt ops n0 olds T H bar).t k) d.es = true) :
    ∀ (os : List Oper) (es : List Yd) (i : Nat) (σ : Nat → V) (M : Hp) (listed : Array Bool), os = ops.toList.drop i → es = ds.drop i → Lx (anyG P nt ops n0 olds T H bar) os i σ M es σ' M' → listed.size = ops.size → i ≤ ops.size →
      (∀ k, k < ops.size → listed[k]? = some (decide (k < i))) → An (anyG P nt ops n0 olds T H bar) ds (fun σ M => σ = σ' ∧ M = M') (ops.size - i) listed σ M := by
  have row : ∀ i oi, ops[i]? = some oi → rowOk ops T H bar olds.length i oi (deps ops.toList 0 [i]) = true := fun i oi hi => by
    have hlt := (Array.getElem?_eq_some_iff.1 hi).1
    have := List.all_eq_true.1 hst i (List.mem_range.2 hlt)
    simp only [hi] at this
    exact this
  intro os
  induction os with
  | nil =>
    intro es i σ M listed ho hes h hsz hi hl
    have e : ops.size - i = 0 := by
      have := congrArg List.length ho
      simp at this
      omega
    rw [e]
    cases es with
    | cons => exact h.elim
    | nil =>
      refine ⟨?_, h.1.symm, h.2.symm⟩
      rw [List.eq_nil_iff_forall_not_mem]
      intro j hj
      obtain ⟨hj, o, hoj, _⟩ := mem_ready.1 hj
      have hlt : j < ops.size := (Array.getElem?_eq_some_iff.1 (show ops[j]? = some o from hoj)).1
      rw [getD_lt (hl j hlt)] at hj
      simp at hj
      omega
  | cons o os ih =>
    intro es i σ M listed ho hes h hsz hi hl
    cases es with
    | nil => exact h.elim
    | cons d es =>
      have hi' : i < ops.size := by
        have := congrArg List.length ho
        simp at this
        omega
      have hoi : ops[i]? = some o := by
        have h1 : (ops.toList.drop i)[0]? = some o := by rw [← ho]; rfl
        rw [List.getElem?_drop] at h1
        simpa using h1
      have hos : os = ops.toList.drop (i + 1) := by
        have h1 := congrArg List.tail ho
        simpa using h1
      have hdi : ds[i]? = some d := by
        have h1 : (ds.drop i)[0]? = some d := by rw [← hes]; rfl
        rw [List.getElem?_drop] at h1
        simpa using h1
      have hess : es = ds.drop (i + 1) := by
        have h1 := congrArg List.tail hes
        simpa using h1
      obtain ⟨g1, g2, _, g4⟩ := h
      have hrow := row i o hoi
      simp only [rowOk, Bool.and_eq_true, List.contains_iff_mem] at hrow
      obtain ⟨⟨⟨⟨r1, r2⟩, r3⟩, r4⟩, _⟩ := hrow
      have hs : ops.size - i = (ops.size - (i + 1)) + 1 := by omega
      rw [hs]
      refine An_first (G := anyG P nt ops n0 olds T H bar) hoi hdi (deps ops.toList 0 [i]) r2 (fun k hk hne => ?_) _ _ _ _ (fun k hk => ?_) (fun j oj dj hoj hdj hjS hun => ?_) ?_ g1 g2 ?_
      · have := List.all_eq_true.1 r3 k hk
        simp only [Bool.and_eq_true, Bool.or_eq_true, beq_iff_eq] at this
        rcases this.2 with h | h
        · exact absurd h hne
        · split at h
          · rename_i o' ho'
            simp only [Array.any_eq_true', Bool.and_eq_true, List.contains_iff_mem] at h
            obtain ⟨e, he, hb, hm⟩ := h
            exact ⟨o', ho', e, he, hb, hm⟩
          · cases h
      · have := List.all_eq_true.1 r3 k hk
        simp only [Bool.and_eq_true, decide_eq_true_eq] at this
        by_cases hlt : k < ops.size
        · rw [getD_lt (hl k hlt)]
          simp
          omega
        · rw [Array.getD_eq_getD_getElem?, Array.getElem?_eq_none (by omega)]
          rfl
      · have hlt : j < ops.size := (Array.getElem?_eq_some_iff.1 (show ops[j]? = some oj from hoj)).1
        rw [getD_lt (hl j hlt)] at hun
        simp only [decide_eq_false_iff_not, Nat.not_lt] at hun
        have hne : j ≠ i := fun e => hjS (e ▸ r2)
        have hp := List.all_eq_true.1 r4 j (List.mem_range.2 hlt)
        have hoj' : ops[j]? = some oj := hoj
        simp only [hoj', Bool.or_eq_true, decide_eq_true_eq, List.contains_iff_mem] at hp
        have hp : pairOk ops T H bar i j o oj = true := by
          rcases hp with (h | h) | h
          · omega
          · exact absurd h hjS
          · exact h
        have codes : ∀ i oi, ops[i]? = some oi → ∀ c ∈ look T i, c < ops.size + olds.length := fun i oi hi c hc => by
          have := row i oi hi
          simp only [rowOk, Bool.and_eq_true] at this
          simpa using List.all_eq_true.1 this.2 c hc
        exact sep_of h1 h2 hp (codes _ _ hoi) (codes _ _ hoj) (htok _ _ hdi) (htok _ _ hdj)
      · refine mem_ready.2 ⟨by rw [getD_lt (hl i hi')]; simp, o, hoi, fun e he hb => ?_⟩
        have := Array.all_eq_true'.1 r1 e he
        simp only [hb, Bool.not_true, Bool.false_or, decide_eq_true_eq] at this
        rw [getD_lt (hl e.on (by omega))]
        simpa using this
      · refine ih es (i + 1) _ _ _ hos hess g4 (by simpa using hsz) hi' fun k hk => ?_
        by_cases e : k = i
        · subst e
          rw [Array.getElem?_setIfInBounds_self_of_lt (by omega)]
          simp
        · rw [Array.getElem?_setIfInBounds_ne (Ne.symm e), hl k hk]
          congr 1
          simp only [decide_eq_decide]
          omega

theorem An_sound {X : Cx} {R : Exit → Act → World → Prop} (hnt : X.nt = G.nt) (hQ : ∀ σ M a w F ν, Sim X ⟨σ, M, G.n0 + G.ops.size⟩ a w F ν → Q σ M → R .normal a w) :
    ∀ (fuel : Nat) (listed : Array Bool) (σ : Nat → V) (M : Hp) (a : Act) (w : World) (F : Fz) (ν : Nu), listed.size = G.ops.size → An G ds Q fuel listed σ M → Ok X.B F ν M w → (∀ k, k < G.ops.size → listed.getD k false = false → ν (G.n0 + k) = none) →
      (∀ id, G.n0 + G.ops.size ≤ id → ν id = none) → Maps a F ν σ → a.tmps.size = X.nt → a.defers = [] → Fz.le X.F F → (∀ id, id < X.n → ν id = X.ν id) → X.n ≤ G.n0 → wpAny G.P .any G.ops R fuel listed a w := by
  intro fuel
  induction fuel with
  | zero =>
    intro listed σ M a w F ν hsz h hok hf hN hm hs hd hF hold hle
    exact ⟨h.1, hQ _ _ _ _ F ν ⟨hok, hN, hm, hs, hd, hF, hold, Nat.le_trans hle (Nat.le_add_right _ _)⟩ h.2⟩
  | succ fuel ih =>
    intro listed σ M a w F ν hsz h hok hf hN hm hs hd hF hold hle
    refine ⟨fun hr => hQ _ _ _ _ F ν ⟨hok, hN, hm, hs, hd, hF, hold, Nat.le_trans hle (Nat.le_add_right _ _)⟩ (h.1 hr), fun i hi => ?_⟩
    obtain ⟨o, d, hoi, hdi, hdst, hop, hA⟩ := h.2 i hi
    have hlt : i < G.ops.size := (Array.getElem?_eq_some_iff.1 hoi).1
    have hun : listed.getD i false = false := by
      have := (mem_ready.1 hi).1
      rw [Array.getD_eq_getD_getElem?] at this ⊢
      rw [Array.getElem?_eq_getElem (by omega)] at this ⊢
      exact this
    unfold wpOp
    rw [hoi]
    refine opD_step (X := X) hok (hf i hlt hun) ⟨_, hN⟩ hm hop fun v w' F' ν' hok' hF' hN' hn hrel => ?_
    refine ih _ _ _ _ _ F' ν' (by simpa using hsz) hA hok' (fun k hk hku => ?_) (fun id hid => by rw [hn id (by omega)]; exact hN id hid) (maps_put (hm.mono hF' hN') (by rw [hs, hnt]; exact hdst) hrel) (by rw [put_size]; exact hs) (by rw [put_df]; exact hd) (Fz.le_trans hF hF')
      (fun id hid => by rw [hn id (by omega)]; exact hold id hid) hle
    by_cases e : k = i
    · subst e
      rw [Array.getD_eq_getD_getElem?, Array.getElem?_setIfInBounds_self_of_lt (by omega)] at hku
      cases hku
    · rw [getD_set_ne false (Ne.symm e)] at hku
      rw [hn _ (by omega)]
      exact hf k hk hku
end
end Go.Ka
