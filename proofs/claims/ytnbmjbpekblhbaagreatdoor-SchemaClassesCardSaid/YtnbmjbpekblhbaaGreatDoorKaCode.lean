/- Bodies: what is left of one is a list; regions, branches, loops; where states are told anew; a function's contract out of its body. -/
import Derived.Test.YtnbmjbpekblhbaaGreatDoorKaCall
set_option linter.all false
namespace Go.Ka
open Go.RowKit
variable [Tab]

def thenQ (next : St → Prop) (Q : Exit → St → Prop) : Exit → St → Prop
  | .normal, s => next s
  | e, s => Q e s

inductive Fr where
  | code (c : Code)
  | blk (id : Nat)

def CW (P : Program) (X : Cx) (Q : Exit → St → Prop) : List Fr → Exit → St → Prop
  | [], e, s => Q e s
  | .code c :: k, .normal, s => Awp P X c s (CW P X Q k)
  | .blk _ :: k, .normal, s => CW P X Q k .normal s
  | .blk id :: k, .exit i, s => if i = id then CW P X Q k .normal s else CW P X Q k (.exit i) s
  | _ :: k, e, s => CW P X Q k e s

section
variable {P : Program} {X : Cx} {Q : Exit → St → Prop} {s : St} {k : List Fr} {σ σ' : Nat → V} {M M' : Hp} {n n' : Nat}

theorem Awp.mono {c : Code} {Q' : Exit → St → Prop} (h : Awp P X c s Q) (hq : ∀ e s, Q e s → Q' e s) : Awp P X c s Q' := fun a w F ν hs =>
  wp_mono (h a w F ν hs) fun _ _ _ ⟨s', F', ν', h1, h2⟩ => ⟨s', F', ν', h1, hq _ _ h2⟩

theorem Awp_seq {x y : Code} (h : Awp P X x s (thenQ (fun s => Awp P X y s Q) Q)) : Awp P X (.seq x y) s Q := by
  intro a w F ν hs
  refine wp_seq (wp_mono (h a w F ν hs) fun e a' w' hx => ?_)
  obtain ⟨s', F', ν', h1, h2⟩ := hx
  cases e with
  | normal => exact h2 a' w' F' ν' h1
  | _ => exact ⟨s', F', ν', h1, h2⟩

theorem cw_seq {x y : Code} (h : CW P X Q (.code x :: .code y :: k) .normal s) : CW P X Q (.code (.seq x y) :: k) .normal s := by
  refine Awp_seq (Awp.mono h fun e s' h' => ?_)
  cases e <;> exact h'

theorem cw_block {id : Nat} {c : Code} (h : CW P X Q (.code c :: .blk id :: k) .normal s) : CW P X Q (.code (.block id c) :: k) .normal s := by
  intro a w F ν hs
  refine wp_block (wp_mono (h a w F ν hs) fun e a' w' hx => ?_)
  obtain ⟨s', F', ν', h1, h2⟩ := hx
  cases e with
  | exit i =>
    simp only [CW] at h2
    simp only [Exit.inBlock]
    split
    · rename_i e; rw [if_pos e] at h2; exact ⟨s', F', ν', h1, h2⟩
    · rename_i e; rw [if_neg e] at h2; exact ⟨s', F', ν', h1, h2⟩
  | _ => exact ⟨s', F', ν', h1, h2⟩

theorem cw_skip (h : CW P X Q k .normal s) : CW P X Q (.code .skip :: k) .normal s := fun _ _ F ν hs => wp_skip ⟨s, F, ν, hs, h⟩
theorem cw_label {l : Nat} (h : CW P X Q k .normal s) : CW P X Q (.code (.label l) :: k) .normal s := fun _ _ F ν hs => wp_label ⟨s, F, ν, hs, h⟩
theorem cw_exit {i : Nat} (h : CW P X Q k (.exit i) s) : CW P X Q (.code (.exit i) :: k) .normal s := fun _ _ F ν hs => wp_exit ⟨s, F, ν, hs, h⟩
theorem cw_ret (h : CW P X Q k .ret s) : CW P X Q (.code .ret :: k) .normal s := fun _ _ F ν hs => wp_ret ⟨s, F, ν, hs, h⟩

theorem cw_nil (h : Q .normal s) : CW P X Q [] .normal s := h
theorem cw_blk {i : Nat} (h : CW P X Q k .normal s) : CW P X Q (.blk i :: k) .normal s := h
/-- Leaving: past code, past the block's own end, past another's, out of a loop. -/
theorem cw_xc {c : Code} {i : Nat} (h : CW P X Q k (.exit i) s) : CW P X Q (.code c :: k) (.exit i) s := h
theorem cw_xb {i : Nat} (h : CW P X Q k .normal s) : CW P X Q (.blk i :: k) (.exit i) s := (if_pos rfl).mpr h
theorem cw_xn {i j : Nat} (hn : Nat.beq i j = false) (h : CW P X Q k (.exit i) s) : CW P X Q (.blk j :: k) (.exit i) s := (if_neg (fun e => by subst e; simp at hn)).mpr h
theorem cw_xt {J : St → Prop} {i : Nat} (h : CW P X Q k (.exit i) s) : CW P X (thenQ J (CW P X Q k)) [] (.exit i) s := h
theorem cw_rc {c : Code} (h : CW P X Q k .ret s) : CW P X Q (.code c :: k) .ret s := h
theorem cw_rb {j : Nat} (h : CW P X Q k .ret s) : CW P X Q (.blk j :: k) .ret s := h
theorem cw_rt {J : St → Prop} (h : CW P X Q k .ret s) : CW P X (thenQ J (CW P X Q k)) [] .ret s := h
theorem cw_rn (h : Q .ret s) : CW P X Q [] .ret s := h

theorem cw_cond {c : Operand} {x y : Code} {b : Bool} (hc : ev s.σ c = .val (.bool b)) (h1 : b = true → CW P X Q (.code x :: k) .normal s) (h2 : b = false → CW P X Q (.code y :: k) .normal s) : CW P X Q (.code (.cond c x y) :: k) .normal s := by
  intro a w F ν hs
  have hr := ev_rel hs.maps c
  rw [hc] at hr
  have e := rel_val hr
  cases b with
  | true => exact wp_cond_true e (h1 rfl a w F ν hs)
  | false => exact wp_cond_false e (h2 rfl a w F ν hs)
/-- A branch that is decided. -/
theorem cw_tk {c : Operand} {x y : Code} {b : Bool} (hc : ev s.σ c = .val (.bool b)) (hb : b = true) (h1 : CW P X Q (.code x :: k) .normal s) : CW P X Q (.code (.cond c x y) :: k) .normal s := cw_cond hc (fun _ => h1) (fun h => by rw [hb] at h; cases h)
theorem cw_fk {c : Operand} {x y : Code} {b : Bool} (hc : ev s.σ c = .val (.bool b)) (hb : b = false) (h1 : CW P X Q (.code y :: k) .normal s) : CW P X Q (.code (.cond c x y) :: k) .normal s := cw_cond hc (fun h => by rw [hb] at h; cases h) (fun _ => h1)
theorem cw_ct {c : Operand} {x y : Code} (hc : ev s.σ c = .val (.bool true)) (h1 : CW P X Q (.code x :: k) .normal s) : CW P X Q (.code (.cond c x y) :: k) .normal s := cw_cond hc (fun _ => h1) (fun h => by cases h)
theorem cw_cf {c : Operand} {x y : Code} (hc : ev s.σ c = .val (.bool false)) (h1 : CW P X Q (.code y :: k) .normal s) : CW P X Q (.code (.cond c x y) :: k) .normal s := cw_cond hc (fun h => by cases h) (fun _ => h1)

/-- Slots, written out. -/
def ls : List (Nat × V) → Nat → V
  | [], _ => .any
  | p :: r, t => bif Nat.beq t p.1 then p.2 else ls r t
/-- Objects, written out. -/
def hl : List (Nat × Ob) → Hp
  | [], _ => none
  | p :: r, t => bif Nat.beq t p.1 then some p.2 else hl r t

theorem ls_cons (p : Nat × V) (r : List (Nat × V)) (t : Nat) : ls (p :: r) t = if t = p.1 then p.2 else ls r t := by
  show (bif Nat.beq t p.1 then _ else _) = _
  by_cases h : t = p.1
  · rw [h]; simp
  · have : Nat.beq t p.1 = false := by
      cases hb : Nat.beq t p.1 with
      | false => rfl
      | true => exact absurd (Nat.eq_of_beq_eq_true hb) h
    simp [this, h]
theorem hl_cons (p : Nat × Ob) (r : List (Nat × Ob)) (t : Nat) : hl (p :: r) t = if t = p.1 then some p.2 else hl r t := by
  show (bif Nat.beq t p.1 then _ else _) = _
  by_cases h : t = p.1
  · rw [h]; simp
  · have : Nat.beq t p.1 = false := by
      cases hb : Nat.beq t p.1 with
      | false => rfl
      | true => exact absurd (Nat.eq_of_beq_eq_true hb) h
    simp [this, h]

/-- The region's own numbers. -/
def G0 (P : Program) (nt : Nat) (ops : Array Oper) (n : Nat) : Rg := ⟨P, nt, ops, n, fun _ => [], fun _ => none⟩

/-- A region in the text's order. -/
theorem cw_rg {id nt n1 : Nat} {ops : Array Oper} {ds : List Yd} (hnt : X.nt = nt) (hn : n + ops.size = n1) (h : Lx (G0 P nt ops n) ops.toList 0 σ M ds σ' M') (hk : CW P X Q k .normal ⟨σ', M', n1⟩) : CW P X Q (.code (.region id ops false) :: k) .normal ⟨σ, M, n⟩ := by
  subst hn
  intro a w F ν hsim
  refine wp_region ?_
  rw [List.range_eq_range']
  have := lx_region (G := G0 P nt ops n) (X := X) (R := fun e a' w' => ∃ s' F' ν', Sim X s' a' w' F' ν' ∧ CW P X Q k e s') (σ' := σ') (M' := M') hnt
    (fun a w F ν hs => ⟨_, F, ν, hs, hk⟩) ops.toList 0 σ M ds a w F ν (by simp [G0]) h hsim (Nat.zero_le _)
  simpa [G0] using this

/-- A region that draws its order. -/
theorem cw_ra {id nt n1 : Nat} {ops : Array Oper} {ds : List Yd} (olds : List Nat) (T H : List (Nat × List Nat)) (bar : List Nat) (hnt : X.nt = nt) (hn : n + ops.size = n1) (hm : P.follows .mixedOrders = true) (hst : stat ops T H bar olds.length = true)
    (h1 : (olds.all fun x => Nat.blt x n) = true) (h2 : olds.Nodup) (h : Lx (anyG P nt ops n olds T H bar) ops.toList 0 σ M ds σ' M') (hk : CW P X Q k .normal ⟨σ', M', n1⟩) : CW P X Q (.code (.region id ops true) :: k) .normal ⟨σ, M, n⟩ := by
  subst hn
  have h1 : ∀ x ∈ olds, x < n := fun x hx => by simpa using List.all_eq_true.1 h1 x hx
  intro a w F ν hsim
  refine wp_region_any hm ?_
  have hlex := An_lex h1 h2 hst (fun k d hd => by simpa using h.tok k d hd) ops.toList ds 0 σ M (Array.replicate ops.size false) (by simp) (by simp) h (by simp) (Nat.zero_le _) (fun k hk => by simp [hk])
  exact An_sound (G := anyG P nt ops n olds T H bar) (X := X) (R := fun e a' w' => ∃ s' F' ν', Sim X s' a' w' F' ν' ∧ CW P X Q k e s') hnt
    (fun σ' M' a w F ν hs hq => by obtain ⟨rfl, rfl⟩ := hq; exact ⟨_, F, ν, hs, hk⟩) ops.size (Array.replicate ops.size false) σ M a _ F ν (by simp [anyG]) hlex hsim.ok.drewOn (fun k _ _ => hsim.nxt _ (Nat.le_add_right _ _)) (fun id hid => hsim.nxt _ (Nat.le_trans (Nat.le_add_right _ _) hid)) hsim.maps hsim.size hsim.df hsim.leF hsim.old hsim.le

/-- A state may be told otherwise, where code follows. -/
def To (X : Cx) (s s' : St) : Prop := ∀ a w F ν, Sim X s a w F ν → ∃ F' ν', Sim X s' a w F' ν'
theorem To.refl (X : Cx) (s : St) : To X s s := fun _ _ F ν h => ⟨F, ν, h⟩
theorem To.trans {X : Cx} {s s' s'' : St} (h : To X s s') (h' : To X s' s'') : To X s s'' := fun a w F ν hs => by
  obtain ⟨F', ν', h1⟩ := h a w F ν hs
  exact h' a w F' ν' h1
theorem cw_to {c : Code} {s' : St} (h : To X s s') (hk : CW P X Q (.code c :: k) .normal s') : CW P X Q (.code c :: k) .normal s := by
  intro a w F ν hs
  obtain ⟨F', ν', hs'⟩ := h a w F ν hs
  exact hk a w F' ν' hs'

theorem cw_loop {c : Code} (I : Nat → St → Prop) (g : Nat) (h0 : I g s) (round : ∀ g s, I g s → CW P X (thenQ (fun s' => ∃ g' s'', g' < g ∧ To X s' s'' ∧ I g' s'') (CW P X Q k)) [.code c] .normal s) : CW P X Q (.code (.loop c) :: k) .normal s := by
  intro a w F ν hs
  refine wp_loop_ghost (fun g a w => ∃ s F ν, Sim X s a w F ν ∧ I g s) g ⟨s, F, ν, hs, h0⟩ fun g a w hI => ?_
  obtain ⟨s1, F1, ν1, hs1, hI1⟩ := hI
  refine wp_mono ((round g s1 hI1) a w F1 ν1 hs1) fun e a' w' hx => ?_
  obtain ⟨s', F', ν', h1, h2⟩ := hx
  cases e with
  | normal =>
    obtain ⟨g', s'', hlt, hto, hI'⟩ := h2
    obtain ⟨F'', ν'', h1⟩ := hto _ _ _ _ h1
    exact ⟨g', hlt, s'', F'', ν'', h1, hI'⟩
  | _ => exact ⟨s', F', ν', h1, h2⟩

/-- A cut: what holds behind a piece of code, and what follows from that. -/
theorem cw_cut {c : Code} (J : St → Prop) (h : CW P X (thenQ (fun s' => ∃ s'', To X s' s'' ∧ J s'') (CW P X Q k)) [.code c] .normal s) (h2 : ∀ s, J s → CW P X Q k .normal s) : CW P X Q (.code c :: k) .normal s := by
  intro a w F ν hs
  refine wp_mono ((show Awp P X c s _ from h) a w F ν hs) fun e a' w' hx => ?_
  obtain ⟨s', F', ν', h1, h2'⟩ := hx
  cases e with
  | normal =>
    obtain ⟨s'', hto, hJ⟩ := h2'
    obtain ⟨F'', ν'', h1⟩ := hto _ _ _ _ h1
    exact ⟨s'', F'', ν'', h1, h2 s'' hJ⟩
  | _ => exact ⟨s', F', ν', h1, h2'⟩

/-! A region of which the outcome alone is told. -/
def dstL (os : List Oper) : List Nat := os.filterMap (·.dst)
def mix (D : List Nat) (L : List (Nat × V)) (σ : Nat → V) : Nat → V := fun x => bif D.elem x then ls L x else σ x
def Agree (σ : Nat → V) : List (Nat × V) → Prop
  | [] => True
  | p :: r => σ p.1 = p.2 ∧ Agree σ r

theorem Lx.other {G : Rg} : ∀ {os : List Oper} {i : Nat} {σ σ' : Nat → V} {M M' : Hp} {ds : List Yd}, Lx G os i σ M ds σ' M' → ∀ t, t ∉ dstL os → σ' t = σ t := by
  intro os
  induction os with
  | nil =>
    intro i σ σ' M M' ds h t _
    cases ds with
    | nil => rw [h.1]
    | cons => exact h.elim
  | cons o os ih =>
    intro i σ σ' M M' ds h t ht
    cases ds with
    | nil => exact h.elim
    | cons d ds =>
      obtain ⟨_, _, _, h4⟩ := h
      have ho : o.dst ≠ some t := fun e => by simp [dstL, e] at ht
      rw [ih h4 t (by
        cases hd : o.dst with
        | none => simpa [dstL, hd] using ht
        | some x => simp [dstL, hd] at ht ⊢; exact ht.2), upd_other ho]

theorem Sim.mix {σ1 : Nat → V} {os : List Oper} {D : List Nat} {L : List (Nat × V)} {a : Act} {w : World} {F : Fz} {ν : Nu} (hD : dstL os = D) (ho : ∀ t, t ∉ dstL os → σ1 t = σ t) (hL : Agree σ1 L) (hs : Sim X ⟨σ1, M, n⟩ a w F ν) : Sim X ⟨mix D L σ, M, n⟩ a w F ν := by
  refine ⟨hs.ok, hs.nxt, fun t => ?_, hs.size, hs.df, hs.leF, hs.old, hs.le⟩
  show Rel F ν _ (bif D.elem t then ls L t else σ t)
  have hm := hs.maps t
  dsimp only at hm
  by_cases h : t ∈ D
  · have e : D.elem t = true := by simpa [List.elem_eq_contains] using h
    rw [e]
    show Rel F ν _ (ls L t)
    clear hD ho
    induction L with
    | nil => exact .any _
    | cons p r ih =>
      rw [ls_cons]
      split
      · rename_i e; rw [← hL.1, ← e]; exact hm
      · exact ih hL.2
  · have e : D.elem t = false := by
      cases hb : D.elem t with
      | false => rfl
      | true => exact absurd (by simpa [List.elem_eq_contains] using hb) h
    rw [e]
    show Rel F ν _ (σ t)
    rw [← ho t (by rw [hD]; exact h)]
    exact hm

theorem cw_rl {id nt n1 : Nat} {ops : Array Oper} {D : List Nat} (L : List (Nat × V)) (hnt : X.nt = nt) (hn : n + ops.size = n1) (hD : dstL ops.toList = D) (h : ∃ ds σ', Lx (G0 P nt ops n) ops.toList 0 σ M ds σ' M' ∧ Agree σ' L) (hk : CW P X Q k .normal ⟨mix D L σ, M', n1⟩) : CW P X Q (.code (.region id ops false) :: k) .normal ⟨σ, M, n⟩ := by
  subst hn
  obtain ⟨ds, σ1, h, hL⟩ := h
  have ho := h.other
  intro a w F ν hsim
  refine wp_region ?_
  rw [List.range_eq_range']
  have := lx_region (G := G0 P nt ops n) (X := X) (R := fun e a' w' => ∃ s' F' ν', Sim X s' a' w' F' ν' ∧ CW P X Q k e s') (σ' := σ1) (M' := M') hnt
    (fun a w F ν hs => ⟨_, F, ν, hs.mix hD ho hL, hk⟩) ops.toList 0 σ M ds a w F ν (by simp [G0]) h hsim (Nat.zero_le _)
  simpa [G0] using this

theorem cw_ral {id nt n1 : Nat} {ops : Array Oper} {D : List Nat} (L : List (Nat × V)) (olds : List Nat) (T H : List (Nat × List Nat)) (bar : List Nat) (hnt : X.nt = nt) (hn : n + ops.size = n1) (hD : dstL ops.toList = D) (hm : P.follows .mixedOrders = true) (hst : stat ops T H bar olds.length = true)
    (h1 : (olds.all fun x => Nat.blt x n) = true) (h2 : olds.Nodup) (h : ∃ ds σ', Lx (anyG P nt ops n olds T H bar) ops.toList 0 σ M ds σ' M' ∧ Agree σ' L) (hk : CW P X Q k .normal ⟨mix D L σ, M', n1⟩) : CW P X Q (.code (.region id ops true) :: k) .normal ⟨σ, M, n⟩ := by
  subst hn
  obtain ⟨ds, σ1, h, hL⟩ := h
  have ho := h.other
  have h1 : ∀ x ∈ olds, x < n := fun x hx => by simpa using List.all_eq_true.1 h1 x hx
  intro a w F ν hsim
  refine wp_region_any hm ?_
  have hlex := An_lex h1 h2 hst (fun k d hd => by simpa using h.tok k d hd) ops.toList ds 0 σ M (Array.replicate ops.size false) (by simp) (by simp) h (by simp) (Nat.zero_le _) (fun k hk => by simp [hk])
  exact An_sound (G := anyG P nt ops n olds T H bar) (X := X) (R := fun e a' w' => ∃ s' F' ν', Sim X s' a' w' F' ν' ∧ CW P X Q k e s') hnt
    (fun σ' M' a w F ν hs hq => by obtain ⟨rfl, rfl⟩ := hq; exact ⟨_, F, ν, hs.mix hD ho hL, hk⟩) ops.size (Array.replicate ops.size false) σ M a _ F ν (by simp [anyG]) hlex hsim.ok.drewOn (fun k _ _ => hsim.nxt _ (Nat.le_add_right _ _)) (fun id hid => hsim.nxt _ (Nat.le_trans (Nat.le_add_right _ _) hid)) hsim.maps hsim.size hsim.df hsim.leF hsim.old hsim.le
end

/-! ### Telling a state otherwise: other names, less known, objects without a block -/
/-- What reads as u reads as u', by new names: by ρ a new name's old one; D: the new names that stand for something; Z: those of new objects without a block. -/
def Tr (ρ : Nat → Nat) (D Z : List Nat) (u u' : V) : Prop := ∀ F ν ν' v, (∀ y ∈ D, ν' y = ν (ρ y)) → (∀ y ∈ Z, ∃ k, ν' y = some k ∧ k.vt = true) → Rel F ν v u → Rel F ν' v u'

inductive Trs (ρ : Nat → Nat) (D Z : List Nat) : List V → List V → Prop
  | nil : Trs ρ D Z [] []
  | cons {u u' : V} {us us' : List V} (h : Tr ρ D Z u u') (hs : Trs ρ D Z us us') : Trs ρ D Z (u :: us) (u' :: us')

section
variable {ρ : Nat → Nat} {D Z : List Nat}
theorem Tr.nf {u : V} (h : NF u) : Tr ρ D Z u u := fun _ _ _ _ _ _ hr => hr.nf h
theorem Tr.any {u : V} : Tr ρ D Z u .any := fun _ _ _ v _ _ _ => .any v
theorem Tr.own {i j a n : Nat} (h : (D.elem j && Nat.beq (ρ j) i) = true) : Tr ρ D Z (.own i a n) (.own j a n) := fun F ν ν' v h1 _ hr => by
  simp only [Bool.and_eq_true, List.elem_eq_contains, List.contains_iff_mem] at h
  have e := Nat.eq_of_beq_eq_true h.2
  cases hr with
  | own _ _ _ c A k hk hc hm hA hB => exact .own j a n c A k ((h1 j h.1).trans (e ▸ hk)) hc hm hA hB
theorem Tr.ownE {i j a n n' : Nat} (h : (D.elem j && Nat.beq (ρ j) i) = true) (e : n = n') : Tr ρ D Z (.own i a n) (.own j a n') := by subst e; exact Tr.own h
theorem Tr.ptr {i j a n : Nat} (h : (D.elem j && Nat.beq (ρ j) i) = true) : Tr ρ D Z (.ptr i a n) (.ptr j a n) := fun F ν ν' v h1 _ hr => by
  simp only [Bool.and_eq_true, List.elem_eq_contains, List.contains_iff_mem] at h
  have e := Nat.eq_of_beq_eq_true h.2
  cases hr with
  | ptr _ _ _ k hk => exact .ptr j a n k ((h1 j h.1).trans (e ▸ hk))
theorem Tr.nilArr : Tr ρ D Z (.val (.slice none 0 0)) (.arr []) := fun F ν ν' v _ _ h => by
  cases h
  exact .arr none 0 0 0 [] (fun _ _ => default) rfl (Nat.le_refl _) (Nat.zero_le _) (fun i el h => by simp at h) (fun i el j u h => by simp at h) (fun h => absurd rfl h) (fun i el j u h => by simp at h)
theorem Tr.nilOwn {j : Nat} (h : Z.elem j = true) : Tr ρ D Z (.val (.slice none 0 0)) (.own j 0 0) := fun F ν ν' v _ h2 hr => by
  cases hr
  obtain ⟨k, hk, _⟩ := h2 j (by simpa [List.elem_eq_contains] using h)
  exact .own j 0 0 0 none k hk (Nat.le_refl _) (Nat.zero_le _) (fun h => absurd rfl h) (.inl rfl)
theorem Tr.nilOwt {j T : Nat} (h : Z.elem j = true) : Tr ρ D Z (.val (.slice none 0 0)) (.owt j 0 T) := fun F ν ν' v _ h2 hr => by
  cases hr
  obtain ⟨k, hk, hv⟩ := h2 j (by simpa [List.elem_eq_contains] using h)
  exact .owt j 0 0 T none k hk (Nat.le_refl _) (Nat.zero_le _) (fun h => absurd rfl h) (.inl rfl) (fun h => by rw [hv] at h; cases h)
theorem Tr.owt {i j n T : Nat} (h : (D.elem j && Nat.beq (ρ j) i) = true) : Tr ρ D Z (.owt i n T) (.owt j n T) := fun F ν ν' v h1 _ hr => by
  simp only [Bool.and_eq_true, List.elem_eq_contains, List.contains_iff_mem] at h
  have e := Nat.eq_of_beq_eq_true h.2
  cases hr with
  | owt _ _ c _ A k hk hc hm hA hB hT => exact .owt j n c T A k ((h1 j h.1).trans (e ▸ hk)) hc hm hA hB hT
theorem Tr.sp {i j T : Nat} (h : (D.elem j && Nat.beq (ρ j) i) = true) : Tr ρ D Z (.sp i T) (.sp j T) := fun F ν ν' v h1 _ hr => by
  simp only [Bool.and_eq_true, List.elem_eq_contains, List.contains_iff_mem] at h
  have e := Nat.eq_of_beq_eq_true h.2
  cases hr with
  | sp _ _ k p hk hT hp => exact .sp j T k p ((h1 j h.1).trans (e ▸ hk)) hT hp

theorem Trs.len {us us' : List V} (h : Trs ρ D Z us us') : us.length = us'.length := by
  induction h with
  | nil => rfl
  | cons _ _ ih => simp [ih]
theorem Trs.at {us us' : List V} (h : Trs ρ D Z us us') : ∀ (j : Nat) (u' : V), us'[j]? = some u' → ∃ u, us[j]? = some u ∧ Tr ρ D Z u u' := by
  induction h with
  | nil => intro j u' hj; simp at hj
  | cons h hs ih =>
    intro j u' hj
    cases j with
    | zero => simp at hj; subst hj; exact ⟨_, rfl, h⟩
    | succ j => exact ih j u' (by simpa using hj)
theorem Trs.append {us us' vs vs' : List V} (h : Trs ρ D Z us us') (h2 : Trs ρ D Z vs vs') : Trs ρ D Z (us ++ vs) (us' ++ vs') := by
  induction h with
  | nil => exact h2
  | cons h _ ih => exact .cons h ih
theorem Trs.nfs {us : List V} (h : ∀ u ∈ us, NF u) : Trs ρ D Z us us := by
  induction us with
  | nil => exact .nil
  | cons u r ih => exact .cons (Tr.nf (h u (by simp))) (ih fun x hx => h x (by simp [hx]))
theorem Tr.agg {us us' : List V} (h : Trs ρ D Z us us') (hc : (us'.all V.cell) = true) : Tr ρ D Z (.agg us) (.agg us') := fun F ν ν' v h1 h2 hr => by
  cases hr with
  | agg vs _ hl hce hr =>
    refine .agg vs us' (hl.trans h.len) (fun j u hj => List.all_eq_true.1 hc u (List.mem_of_getElem? hj)) fun j v u hv hj => ?_
    obtain ⟨u0, h0, hw⟩ := h.at j u hj
    exact hw _ _ _ _ h1 h2 (hr j v u0 hv h0)
theorem Tr.tup {us us' : List V} (h : Trs ρ D Z us us') : Tr ρ D Z (.tup us) (.tup us') := fun F ν ν' v h1 h2 hr => by
  cases hr with
  | tup vs _ hl hr =>
    refine .tup vs us' (hl.trans h.len) fun j v u hv hj => ?_
    obtain ⟨u0, h0, hw⟩ := h.at j u hj
    exact hw _ _ _ _ h1 h2 (hr j v u0 hv h0)
theorem Tr.fn {f : Nat} {us us' : List V} (h : Trs ρ D Z us us') : Tr ρ D Z (.fn f us) (.fn f us') := fun F ν ν' v h1 h2 hr => by
  cases hr with
  | fn _ vs _ hl hr =>
    refine .fn f vs us' (hl.trans h.len) fun j v u hv hj => ?_
    obtain ⟨u0, h0, hw⟩ := h.at j u hj
    exact hw _ _ _ _ h1 h2 (hr j v u0 hv h0)

/-- Objects, by new names. -/
def TrO (ρ : Nat → Nat) (D Z : List Nat) (o o' : Ob) : Prop := o'.sz = o.sz ∧ o'.els.length = o.els.length ∧ ∀ (i : Nat) (el el' : List V), o.els[i]? = some el → o'.els[i]? = some el' → el'.length = el.length ∧ ∀ (j : Nat) (u u' : V), el[j]? = some u → el'[j]? = some u' → Tr ρ D Z u u' ∧ u'.cell = true
theorem TrO.nf {o : Ob} (h : ∀ el ∈ o.els, ∀ u ∈ el, NF u ∧ u.cell = true) : TrO ρ D Z o o := ⟨rfl, rfl, fun i el el' h1 h2 => by
  rw [h1] at h2
  cases h2
  refine ⟨rfl, fun j u u' g1 g2 => ?_⟩
  rw [g1] at g2
  cases g2
  obtain ⟨q1, q2⟩ := h el (List.mem_of_getElem? h1) u (List.mem_of_getElem? g1)
  exact ⟨Tr.nf q1, q2⟩⟩
theorem fix0 : ∀ y, y < 0 → ρ y = y ∧ y ∈ D := fun _ h => absurd h (Nat.not_lt_zero _)
theorem TrO.cell {us us' : List V} {sz : Nat} (h : Trs ρ D Z us us') (hc : (us'.all V.cell) = true) : TrO ρ D Z ⟨[us], sz⟩ ⟨[us'], sz⟩ := ⟨rfl, rfl, fun i el el' h1 h2 => by
  cases i <;> simp at h1 h2
  subst h1; subst h2
  refine ⟨h.len.symm, fun j u u' g1 g2 => ?_⟩
  obtain ⟨u0, q1, q2⟩ := h.at j u' g2
  rw [g1] at q1
  cases q1
  exact ⟨q2, List.all_eq_true.1 hc u' (List.mem_of_getElem? g2)⟩⟩

/-- New slots out of old ones. -/
def TrL (ρ : Nat → Nat) (D Z : List Nat) (σ : Nat → V) : List (Nat × V) → Prop
  | [] => True
  | p :: r => Tr ρ D Z (σ p.1) p.2 ∧ TrL ρ D Z σ r
/-- New objects out of old ones. -/
def TrH (ρ : Nat → Nat) (D Z : List Nat) (M : Hp) : List (Nat × Ob) → Prop
  | [] => True
  | p :: r => ((Z.elem p.1 = true ∧ p.2.els = []) ∨ (D.elem p.1 = true ∧ ∃ o, M (ρ p.1) = some o ∧ TrO ρ D Z o p.2)) ∧ TrH ρ D Z M r

theorem TrL.maps {σ : Nat → V} {L : List (Nat × V)} (h : TrL ρ D Z σ L) {a : Act} {F : Fz} {ν ν' : Nu} (h1 : ∀ y ∈ D, ν' y = ν (ρ y)) (h2 : ∀ y ∈ Z, ∃ k, ν' y = some k ∧ k.vt = true) (hm : Maps a F ν σ) : Maps a F ν' (ls L) := by
  intro t
  induction L with
  | nil => exact .any _
  | cons p r ih =>
    rw [ls_cons]
    split
    · rename_i e; subst e; exact h.1 _ _ _ _ h1 h2 (hm _)
    · exact ih h.2
theorem TrH.at {M : Hp} {H : List (Nat × Ob)} (h : TrH ρ D Z M H) {x : Nat} {o' : Ob} (hx : hl H x = some o') : (x ∈ Z ∧ o'.els = []) ∨ (x ∈ D ∧ ∃ o, M (ρ x) = some o ∧ TrO ρ D Z o o') := by
  induction H with
  | nil => cases hx
  | cons p r ih =>
    rw [hl_cons] at hx
    split at hx
    · rename_i e
      subst e
      cases hx
      rcases h.1 with ⟨hz, h1⟩ | ⟨hd, h1⟩
      · exact .inl ⟨by simpa [List.elem_eq_contains] using hz, h1⟩
      · exact .inr ⟨by simpa [List.elem_eq_contains] using hd, h1⟩
    · exact ih h.2 hx

/-- A state told by new names. N: the numbers below which what is handed in keeps its own. -/
theorem to_ren {X : Cx} {σ : Nat → V} {M : Hp} {n n' N : Nat} (ρ : Nat → Nat) (D Z : List Nat) {L : List (Nat × V)} {H : List (Nat × Ob)} (hN : X.n = N) (hNn : Nat.ble N n' = true) (hD : (D.all fun y => Nat.blt y n' && (Nat.ble N y || Nat.beq (ρ y) y) && !Z.elem y) = true) (hZ : (Z.all fun y => Nat.blt y n' && Nat.ble N y) = true)
    (hfix : ∀ y, y < N → ρ y = y ∧ y ∈ D) (hinj : (D.map ρ).Nodup) (hL : TrL ρ D Z σ L) (hH : TrH ρ D Z M H) : To X ⟨σ, M, n⟩ ⟨ls L, hl H, n'⟩ := by
  intro a w F ν hs
  subst hN
  have hNn : X.n ≤ n' := Nat.ble_eq.mp hNn
  have hD' : ∀ y ∈ D, y < n' ∧ (X.n ≤ y ∨ ρ y = y) ∧ y ∉ Z := fun y hy => by
    have := List.all_eq_true.1 hD y hy
    simp only [Bool.and_eq_true, Bool.or_eq_true, Nat.blt_eq, Nat.ble_eq, Bool.not_eq_true', List.elem_eq_contains] at this
    obtain ⟨⟨h1, h2⟩, h3⟩ := this
    exact ⟨h1, h2.imp id Nat.eq_of_beq_eq_true, by simpa using h3⟩
  have hZ' : ∀ y ∈ Z, y < n' ∧ X.n ≤ y := fun y hy => by
    have := List.all_eq_true.1 hZ y hy
    simpa only [Bool.and_eq_true, Nat.blt_eq, Nat.ble_eq] using this
  -- the new naming
  let zsz : Nat → Nat := fun y => ((hl H y).map (·.sz)).getD 0
  let ν' : Nu := fun y => if y ∈ D then ν (ρ y) else if y ∈ Z then some ⟨0, zsz y, 0, true, 0⟩ else none
  have h1 : ∀ y ∈ D, ν' y = ν (ρ y) := fun y hy => if_pos hy
  have h2 : ∀ y ∈ Z, ν' y = some ⟨0, zsz y, 0, true, 0⟩ := fun y hy => by
    show (if y ∈ D then _ else _) = _
    rw [if_neg (fun h => (hD' y h).2.2 hy), if_pos hy]
  have h2' : ∀ y ∈ Z, ∃ k, ν' y = some k ∧ k.vt = true := fun y hy => ⟨_, h2 y hy, rfl⟩
  have inj : ∀ x y, x ∈ D → y ∈ D → ρ x = ρ y → x = y := fun x y hx hy e => by
    have hp := List.pairwise_iff_getElem.1 hinj
    obtain ⟨i, hi, rfl⟩ := List.getElem_of_mem hx
    obtain ⟨j, hj, rfl⟩ := List.getElem_of_mem hy
    rcases Nat.lt_trichotomy i j with h | h | h
    · exact absurd (by rw [List.getElem_map, List.getElem_map]; exact e) (hp i j (by simpa using hi) (by simpa using hj) h)
    · subst h; rfl
    · exact absurd (by rw [List.getElem_map, List.getElem_map]; exact e.symm) (hp j i (by simpa using hj) (by simpa using hi) h)
  have vt : ∀ {x : Nat} {k : Blk} {o' : Ob}, hl H x = some o' → ν' x = some k → k.vt = false → x ∈ D ∧ ν (ρ x) = some k ∧ ∃ o, M (ρ x) = some o := fun {x k o'} hx hk hv => by
    rcases hH.at hx with ⟨hz, _⟩ | ⟨hd, o, ho, _⟩
    · rw [h2 x hz] at hk
      cases hk
      cases hv
    · exact ⟨hd, h1 x hd ▸ hk, o, ho⟩
  refine ⟨F, ν', ⟨hs.ok.fz, fun x o' hx => ?_, fun x y o o' k k' hx hy hne hkx hky v1 v2 => ?_, hs.ok.below, fun x o k hx hkx v1 => ?_, hs.ok.tab, hs.ok.ice⟩, fun y hy => ?_, hL.maps h1 h2' hs.maps, hs.size, hs.df, hs.leF, fun y hy => ?_, hNn⟩
  · rcases hH.at hx with ⟨hz, he⟩ | ⟨hd, o, ho, hsz, hlen, hel⟩
    · refine ⟨_, h2 x hz, .inr ⟨rfl, rfl, ?_, he⟩, fun h => by cases h⟩
      show zsz x = o'.sz
      show ((hl H x).map (·.sz)).getD 0 = _
      simp only at hx
      rw [hx]
      rfl
    · obtain ⟨k, hk, hat, hf⟩ := hs.ok.ob _ _ ho
      refine ⟨k, (h1 x hd).trans hk, ?_, hf⟩
      rcases hat with ⟨hv, cur, ty, fr, g1, ⟨g2, gty⟩, g3, g4, g5, g6, g7⟩ | ⟨hv, g1, g2, g3⟩
      · have old : ∀ (i : Nat) (el' : List V), o'.els[i]? = some el' → ∃ el, o.els[i]? = some el := fun i el' hi => by
          have := (List.getElem?_eq_some_iff.1 hi).1
          exact ⟨o.els[i]'(by omega), List.getElem?_eq_getElem (by omega)⟩
        refine .inl ⟨hv, cur, ty, fr, g1, ⟨g2, gty⟩, g3, g4.trans hsz.symm, fun i el' hi => ?_, by rw [hlen, hsz]; exact g6, fun i el' j u' hi hj => ?_⟩
        · obtain ⟨el, he⟩ := old i el' hi
          rw [(hel i el el' he hi).1, hsz]
          exact g5 i el he
        · obtain ⟨el, he⟩ := old i el' hi
          obtain ⟨q1, q2⟩ := hel i el el' he hi
          obtain ⟨u, hu⟩ := get_of_length q1.symm hj
          obtain ⟨r1, r2⟩ := q2 j u u' hu hj
          obtain ⟨_, v, hv, hr⟩ := g7 i el j u he hu
          exact ⟨r2, v, by rw [hsz]; exact hv, r1 _ _ _ _ h1 h2' hr⟩
      · exact .inr ⟨hv, g1, g2.trans hsz.symm, List.eq_nil_of_length_eq_zero (by rw [hlen, g3]; rfl)⟩
  · obtain ⟨d1, e1, o1, m1⟩ := vt hx hkx v1
    obtain ⟨d2, e2, o2, m2⟩ := vt hy hky v2
    exact hs.ok.inj _ _ _ _ _ _ m1 m2 (fun e => hne (inj x y d1 d2 e)) e1 e2 v1 v2
  · obtain ⟨d1, e1, o1, m1⟩ := vt hx hkx v1
    exact hs.ok.live _ _ _ m1 e1 v1
  · show (if y ∈ D then _ else _) = _
    dsimp only at hy
    rw [if_neg (fun h => by have := (hD' y h).1; omega), if_neg (fun h => by have := (hZ' y h).1; omega)]
  · obtain ⟨e, hd⟩ := hfix y hy
    rw [h1 y hd, e]
    exact hs.old y hy
end
end Go.Ka
