/- The walk's own objects, the cells that nobody writes, and what a step of the machine leaves of them. -/
import Derived.Test.YtnbmjbpekblhbaaGreatDoorKaVal
set_option linter.all false
namespace Go.Ka
open Go.RowKit

structure Ob where
  els : List (List V)
  sz : Nat

abbrev Hp := Nat → Option Ob
def setM (M : Hp) (id : Nat) (o : Option Ob) : Hp := fun x => bif Nat.beq x id then o else M x
theorem setM_at (M : Hp) (id x : Nat) (o : Option Ob) : setM M id o x = if x = id then o else M x := by
  show (bif Nat.beq x id then _ else _) = _
  by_cases h : x = id
  · rw [h]; simp
  · have : Nat.beq x id = false := by
      cases hb : Nat.beq x id with
      | false => rfl
      | true => exact absurd (Nat.eq_of_beq_eq_true hb) h
    simp [this, h]
theorem setM_same (M : Hp) (id : Nat) (o : Option Ob) : setM M id o id = o := by simp [setM_at]
theorem setM_ne {M : Hp} {id x : Nat} {o : Option Ob} (h : x ≠ id) : setM M id o x = M x := by simp [setM_at, h]
def setN (ν : Nu) (id : Nat) (k : Blk) : Nu := fun x => if x = id then some k else ν x
def addF (F : Fz) (b : Nat) (f : Nat → Option Value) : Fz := fun x o => if x = b then f o else F x o

/-- Where a call began: the world, what was frozen, the blocks that it may turn. -/
structure Gd where
  w : World
  F : Fz
  D : Nat → Prop

/-- The object's elements lie at the head of its block. -/
def RealAt (F : Fz) (ν : Nu) (w : World) (o : Ob) (k : Blk) : Prop :=
  ∃ cur ty fr, w.heap[k.b]? = some (.cells cur ty fr) ∧ (cur.size = k.cap ∧ ty = k.ty) ∧ (∀ x, x < k.cap → ¬ (fr.1 ≤ x ∧ x < fr.2)) ∧ k.sz = o.sz ∧
    (∀ (i : Nat) (el : List V), o.els[i]? = some el → el.length = o.sz) ∧ o.els.length * o.sz ≤ k.cap ∧
    ∀ (i : Nat) (el : List V) (j : Nat) (u : V), o.els[i]? = some el → el[j]? = some u → u.cell = true ∧ ∃ v, cur[i * o.sz + j]? = some v ∧ Rel F ν v u

/-- An object: in its block, or, while it has none, without elements. -/
def ObAt (F : Fz) (ν : Nu) (w : World) (o : Ob) (k : Blk) : Prop :=
  (k.vt = false ∧ RealAt F ν w o k) ∨ (k.vt = true ∧ k.cap = 0 ∧ k.sz = o.sz ∧ o.els = [])

section
variable {F F' : Fz} {ν ν' : Nu} {w w' : World} {o : Ob} {k : Blk}
theorem ObAt.real (h : ObAt F ν w o k) {i : Nat} {el : List V} (he : o.els[i]? = some el) : k.vt = false ∧ RealAt F ν w o k := by
  rcases h with h | ⟨_, _, _, h⟩
  · exact h
  · rw [h] at he; simp at he
theorem ObAt.realV (h : ObAt F ν w o k) (hv : k.vt = false) : RealAt F ν w o k := by
  rcases h with h | ⟨h, _⟩
  · exact h.2
  · rw [hv] at h; cases h
theorem ObAt.szEq (h : ObAt F ν w o k) : k.sz = o.sz := by
  rcases h with ⟨_, _, _, _, _, _, _, h, _⟩ | ⟨_, _, h, _⟩ <;> exact h
theorem ObAt.lens (h : ObAt F ν w o k) : ∀ (i : Nat) (el : List V), o.els[i]? = some el → el.length = o.sz := fun i el he => by
  obtain ⟨_, _, _, _, _, _, _, _, h, _⟩ := h.real he
  exact h i el he
theorem ObAt.fits (h : ObAt F ν w o k) : o.els.length * o.sz ≤ k.cap := by
  rcases h with ⟨_, _, _, _, _, _, _, _, _, h, _⟩ | ⟨_, _, _, h⟩
  · exact h
  · rw [h]; simp
theorem ObAt.els (h : ObAt F ν w o k) : ∀ (i : Nat) (el : List V) (j : Nat) (u : V), o.els[i]? = some el → el[j]? = some u → u.cell = true ∧ ∃ v, w.cell? ⟨k.b, i * o.sz + j, none⟩ = some v ∧ Rel F ν v u := fun i el j u he hj => by
  obtain ⟨_, cur, ty, fr, h1, _, _, _, _, _, h7⟩ := h.real he
  obtain ⟨hc, v, hv, hr⟩ := h7 i el j u he hj
  exact ⟨hc, v, by simp [World.cell?, h1, hv], hr⟩

theorem RealAt.mono (h : RealAt F ν w o k) (hF : Fz.le F F') (hN : Nu.le ν ν') (hw : w'.heap[k.b]? = w.heap[k.b]?) : RealAt F' ν' w' o k := by
  obtain ⟨cur, ty, fr, h1, ⟨h2, gty⟩, h3, h4, h5, h6, h7⟩ := h
  refine ⟨cur, ty, fr, hw.trans h1, ⟨h2, gty⟩, h3, h4, h5, h6, fun i el j u a b => ?_⟩
  obtain ⟨hc, v, hv, hr⟩ := h7 i el j u a b
  exact ⟨hc, v, hv, hr.mono hF hN⟩
theorem ObAt.mono (h : ObAt F ν w o k) (hF : Fz.le F F') (hN : Nu.le ν ν') (hw : k.vt = false → w'.heap[k.b]? = w.heap[k.b]?) : ObAt F' ν' w' o k := by
  rcases h with ⟨h1, h⟩ | h
  · exact .inl ⟨h1, h.mono hF hN (hw h1)⟩
  · exact .inr h
end

/-- Cells that stand fast from the beginning: the program's own tables. -/
class Tab where
  T : Fz
  H : Nat → Option Obj
  hd : ∀ b o, H b = some o → ∃ x v, T b x = some v

variable [Tab]

structure Bel (B : Gd) (w : World) : Prop where
  os : w.os = B.w.os
  tape : w.tape = B.w.tape
  output : w.output = B.w.output
  size : B.w.heap.size ≤ w.heap.size
  block : ∀ b, b < B.w.heap.size → ¬ B.D b → w.heap[b]? = B.w.heap[b]?

/-- B: where the call began. -/
structure Ok (B : Gd) (F : Fz) (ν : Nu) (M : Hp) (w : World) : Prop where
  fz : ∀ b o v, F b o = some v → w.cell? ⟨b, o, none⟩ = some v
  ob : ∀ id o, M id = some o → ∃ k, ν id = some k ∧ ObAt F ν w o k ∧ (k.vt = false → ∀ x, F k.b x = none)
  inj : ∀ id id' o o' k k', M id = some o → M id' = some o' → id ≠ id' → ν id = some k → ν id' = some k' → k.vt = false → k'.vt = false → k.b ≠ k'.b
  below : Bel B w
  live : ∀ id o k, M id = some o → ν id = some k → k.vt = false → B.D k.b ∨ B.w.heap.size ≤ k.b
  tab : Fz.le Tab.T F ∧ ∀ b o, Tab.H b = some o → w.heap[b]? = some o
  ice : ∀ b o, b < B.w.heap.size → ¬ B.D b → F b o = B.F b o

theorem cell_at {w : World} {b o : Nat} {cur : Array Value} {ty : TypeId} {fr : Nat × Nat} (h : w.heap[b]? = some (.cells cur ty fr)) : w.cell? ⟨b, o, none⟩ = cur[o]? := by
  simp [World.cell?, h]

theorem lt_of_some {w : World} {b : Nat} {x : Obj} (h : w.heap[b]? = some x) : b < w.heap.size := (Array.getElem?_eq_some_iff.1 h).1

section
variable {B : Gd} {F : Fz} {ν : Nu} {M : Hp} {w : World}

theorem Ok.size (h : Ok B F ν M w) : B.w.heap.size ≤ w.heap.size := h.below.size
theorem Ok.lt (h : Ok B F ν M w) {b o : Nat} {v : Value} (hf : F b o = some v) : b < w.heap.size := World.block_lt_of_cell? w _ (h.fz _ _ _ hf)

theorem Ok.at (h : Ok B F ν M w) {id : Nat} {o : Ob} {k : Blk} (hm : M id = some o) (hk : ν id = some k) : ObAt F ν w o k ∧ (k.vt = false → ∀ x, F k.b x = none) := by
  obtain ⟨k', hk', h1, h2⟩ := h.ob _ _ hm
  rw [hk] at hk'
  cases hk'
  exact ⟨h1, h2⟩

theorem Ok.obLt (h : Ok B F ν M w) {id : Nat} {o : Ob} {k : Blk} (hm : M id = some o) (hk : ν id = some k) (hv : k.vt = false) : k.b < w.heap.size := by
  obtain ⟨cur, ty, fr, h1, _⟩ := (h.at hm hk).1.realV hv
  exact lt_of_some h1

/-- The world goes on; of what was there one object's block alone turns. -/
theorem Ok.world (h : Ok B F ν M w) {w' : World} (h1 : w'.os = w.os) (h2 : w'.tape = w.tape) (h3 : w'.output = w.output) (h4 : w.heap.size ≤ w'.heap.size)
    {id : Nat} {o o' : Ob} {k : Blk} (hm : M id = some o) (hk : ν id = some k) (hv : k.vt = false) (h5 : ∀ b, b < w.heap.size → b ≠ k.b → w'.heap[b]? = w.heap[b]?) (h6 : ObAt F ν w' o' k) : Ok B F ν (setM M id (some o')) w' := by
  obtain ⟨hat, hFk⟩ := h.at hm hk
  have hFk := hFk hv
  refine ⟨fun b o v hf => ?_, fun id1 o1 hm1 => ?_, fun id1 id2 o1 o2 k1 k2 a b hne c d v1 v2 => ?_, ⟨h1.trans h.below.os, h2.trans h.below.tape, h3.trans h.below.output, Nat.le_trans h.below.size h4, fun b hb hD => ?_⟩, fun id1 o1 k1 a b v1 => ?_, ⟨h.tab.1, fun b o hb => by
    have hw := h.tab.2 b o hb
    obtain ⟨x, v, hv⟩ := Tab.hd b o hb
    rw [h5 b (lt_of_some hw) (fun e => by have := h.tab.1 _ _ _ hv; rw [e, hFk] at this; cases this)]
    exact hw⟩, h.ice⟩
  · have hb : b ≠ k.b := fun e => by rw [e, hFk] at hf; cases hf
    rw [← h.fz _ _ _ hf]
    exact World.cell?_of_block (h5 b (h.lt hf) hb)
  · by_cases e : id1 = id
    · subst e
      rw [setM_same] at hm1
      cases hm1
      exact ⟨k, hk, h6, fun _ => hFk⟩
    · rw [setM_ne e] at hm1
      obtain ⟨k1, hk1, hat1, hF1⟩ := h.ob _ _ hm1
      exact ⟨k1, hk1, hat1.mono (Fz.le_refl _) (Nu.le_refl _) (fun v1 => h5 _ (h.obLt hm1 hk1 v1) (h.inj _ _ _ _ _ _ hm1 hm e hk1 hk v1 hv)), hF1⟩
  · by_cases e1 : id1 = id
    · have e2 : id2 ≠ id := fun e => hne (e1.trans e.symm)
      subst e1
      rw [setM_ne e2] at b
      exact h.inj _ _ _ _ _ _ hm b hne c d v1 v2
    · rw [setM_ne e1] at a
      by_cases e2 : id2 = id
      · subst e2
        exact h.inj _ _ _ _ _ _ a hm hne c d v1 v2
      · rw [setM_ne e2] at b
        exact h.inj _ _ _ _ _ _ a b hne c d v1 v2
  · rw [h5 b (Nat.lt_of_lt_of_le hb h.below.size) (fun e => by
      rcases h.live _ _ _ hm hk hv with hl | hl
      · exact hD (e ▸ hl)
      · omega)]
    exact h.below.block b hb hD
  · by_cases e : id1 = id
    · subst e
      exact h.live _ _ _ hm b v1
    · rw [setM_ne e] at a
      exact h.live _ _ _ a b v1

/-- The world goes on; nothing that was there turns. -/
theorem Ok.on (h : Ok B F ν M w) {w' : World} (h1 : w'.os = w.os) (h2 : w'.tape = w.tape) (h3 : w'.output = w.output) (h4 : w.heap.size ≤ w'.heap.size)
    (h5 : ∀ b, b < w.heap.size → w'.heap[b]? = w.heap[b]?) : Ok B F ν M w' := by
  refine ⟨fun b o v hf => ?_, fun id1 o1 hm1 => ?_, h.inj, ⟨h1.trans h.below.os, h2.trans h.below.tape, h3.trans h.below.output, Nat.le_trans h.below.size h4, fun b hb hD => ?_⟩, h.live, ⟨h.tab.1, fun b o hb => by
    have hw := h.tab.2 b o hb
    rw [h5 b (lt_of_some hw)]
    exact hw⟩, h.ice⟩
  · rw [← h.fz _ _ _ hf]
    exact World.cell?_of_block (h5 b (h.lt hf))
  · obtain ⟨k1, hk1, hat1, hF1⟩ := h.ob _ _ hm1
    exact ⟨k1, hk1, hat1.mono (Fz.le_refl _) (Nu.le_refl _) (fun v1 => h5 _ (h.obLt hm1 hk1 v1)), hF1⟩
  · rw [h5 b (Nat.lt_of_lt_of_le hb h.below.size)]
    exact h.below.block b hb hD

/-- A block that is nobody's becomes an object. -/
theorem Ok.new (h : Ok B F ν M w) {id : Nat} {o : Ob} {k : Blk} (hid : ν id = none) (hF : k.vt = false → ∀ x, F k.b x = none) (hob : k.vt = false → ∀ id' o' k', M id' = some o' → ν id' = some k' → k'.vt = false → k'.b ≠ k.b)
    (hl : k.vt = false → B.D k.b ∨ B.w.heap.size ≤ k.b) (hat : ObAt F ν w o k) : Ok B F (setN ν id k) (setM M id (some o)) w ∧ Nu.le ν (setN ν id k) := by
  have hle : Nu.le ν (setN ν id k) := fun x y hx => by
    unfold setN
    split
    · rename_i e; rw [e, hid] at hx; cases hx
    · exact hx
  have hM : M id = none := by
    cases hm : M id with
    | none => rfl
    | some o => obtain ⟨k', hk', _⟩ := h.ob _ _ hm; rw [hid] at hk'; cases hk'
  have hne : ∀ {x y}, x ≠ id → setN ν id k x = some y → ν x = some y := fun hx hy => by simpa [setN, hx] using hy
  refine ⟨⟨h.fz, fun id1 o1 hm1 => ?_, fun id1 id2 o1 o2 k1 k2 a b hn c d v1 v2 => ?_, h.below, fun id1 o1 k1 a b v1 => ?_, h.tab, h.ice⟩, hle⟩
  · by_cases e : id1 = id
    · subst e
      rw [setM_same] at hm1
      cases hm1
      exact ⟨k, by simp [setN], hat.mono (Fz.le_refl _) hle (fun _ => rfl), hF⟩
    · rw [setM_ne e] at hm1
      obtain ⟨k1, hk1, hat1, hF1⟩ := h.ob _ _ hm1
      exact ⟨k1, hle _ _ hk1, hat1.mono (Fz.le_refl _) hle (fun _ => rfl), hF1⟩
  · by_cases e1 : id1 = id
    · have e2 : id2 ≠ id := fun e => hn (e1.trans e.symm)
      subst e1
      rw [setM_ne e2] at b
      have hd := hne e2 d
      have : k1 = k := by simpa [setN] using c.symm
      subst this
      exact (hob v1 _ _ _ b hd v2).symm
    · rw [setM_ne e1] at a
      have hc := hne e1 c
      by_cases e2 : id2 = id
      · subst e2
        have : k2 = k := by simpa [setN] using d.symm
        subst this
        exact hob v2 _ _ _ a hc v1
      · rw [setM_ne e2] at b
        exact h.inj _ _ _ _ _ _ a b hn hc (hne e2 d) v1 v2
  · by_cases e : id1 = id
    · subst e
      have : k1 = k := by simpa [setN] using b.symm
      subst this
      exact hl v1
    · rw [setM_ne e] at a
      exact h.live _ _ _ a (hne e b) v1

theorem addF_le {b : Nat} {f : Nat → Option Value} (hF : ∀ x, F b x = none) : Fz.le F (addF F b f) := fun x o v hx => by
  unfold addF
  split
  · rename_i e; rw [e, hF] at hx; cases hx
  · exact hx

/-- Cells of a block that is nobody's: nobody writes them from now on. -/
theorem Ok.imm (h : Ok B F ν M w) {b : Nat} {f : Nat → Option Value} (hF : ∀ x, F b x = none) (hob : ∀ id' o' k', M id' = some o' → ν id' = some k' → k'.vt = false → k'.b ≠ b)
    (hl : B.D b ∨ B.w.heap.size ≤ b) (hf : ∀ o v, f o = some v → w.cell? ⟨b, o, none⟩ = some v) : Ok B (addF F b f) ν M w := by
  have hle := addF_le (f := f) hF
  refine ⟨fun x o v hx => ?_, fun id1 o1 hm1 => ?_, h.inj, h.below, h.live, ⟨Fz.le_trans h.tab.1 hle, h.tab.2⟩, fun x o hx hD => ?_⟩
  · unfold addF at hx
    split at hx
    · rename_i e; subst e; exact hf _ _ hx
    · exact h.fz _ _ _ hx
  · obtain ⟨k1, hk1, hat1, hF1⟩ := h.ob _ _ hm1
    refine ⟨k1, hk1, hat1.mono hle (Nu.le_refl _) (fun _ => rfl), fun v1 x => ?_⟩
    rw [addF, if_neg (hob _ _ _ hm1 hk1 v1)]
    exact hF1 v1 x
  · rw [addF, if_neg (fun e => by
      subst e
      rcases hl with hl | hl
      · exact hD hl
      · omega)]
    exact h.ice x o hx hD

/-- An object is forgotten. -/
theorem Ok.drop (h : Ok B F ν M w) (id : Nat) : Ok B F ν (setM M id none) w := by
  have hs : ∀ {x y}, setM M id none x = some y → M x = some y := fun {x y} hx => by
    rw [setM_at] at hx
    split at hx
    · cases hx
    · exact hx
  exact ⟨h.fz, fun id1 o1 hm1 => h.ob _ _ (hs hm1), fun id1 id2 o1 o2 k1 k2 a b => h.inj _ _ _ _ _ _ (hs a) (hs b), h.below, fun id1 o1 k1 a => h.live _ _ _ (hs a), h.tab, h.ice⟩

theorem setM_none_other {id x : Nat} (hx : x ≠ id) : setM M id none x = M x := setM_ne hx

end
end Go.Ka
