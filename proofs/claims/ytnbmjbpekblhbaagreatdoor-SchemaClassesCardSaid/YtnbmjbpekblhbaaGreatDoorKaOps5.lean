/- Operations, the fifth part: structs and slices that are built, conversions, append. -/
import Derived.Test.YtnbmjbpekblhbaaGreatDoorKaOps4
import Derived.Lib.ConvBytes
set_option linter.all false
namespace Go.Ka
open Go.RowKit
variable [Tab]

/-- Cells and what they read as. -/
def RL (F : Fz) (ν : Nu) (vs : List Value) (cs : List V) : Prop :=
  vs.length = cs.length ∧ (∀ (j : Nat) (x : V), cs[j]? = some x → x.cell = true) ∧ ∀ (j : Nat) (y : Value) (x : V), vs[j]? = some y → cs[j]? = some x → Rel F ν y x

def spliceV (l : List Value) (off : Nat) (vs : List Value) : List Value := l.take off ++ vs ++ l.drop (off + vs.length)

theorem spliceV_at {l vs : List Value} {off j : Nat} (h : off + vs.length ≤ l.length) : (spliceV l off vs)[j]? = if off ≤ j ∧ j < off + vs.length then vs[j - off]? else l[j]? := by
  unfold spliceV
  have hlt : (l.take off).length = off := by rw [List.length_take]; omega
  by_cases h1 : j < off
  · rw [List.append_assoc, List.getElem?_append_left (by omega), List.getElem?_take, if_pos h1, if_neg (by omega)]
  · by_cases h2 : j < off + vs.length
    · rw [List.append_assoc, List.getElem?_append_right (by omega), hlt, List.getElem?_append_left (by omega), if_pos (by omega)]
    · rw [List.getElem?_append_right (by rw [List.length_append, hlt]; omega), List.length_append, hlt, List.getElem?_drop, if_neg (by omega)]
      congr 1
      omega

theorem RL.splice {F : Fz} {ν : Nu} {vs us : List Value} {cs ds : List V} {off : Nat} (h : RL F ν vs cs) (h' : RL F ν us ds) (hf : off + ds.length ≤ cs.length) : RL F ν (spliceV vs off us) (splice cs off ds) := by
  obtain ⟨h1, h2, h3⟩ := h
  obtain ⟨g1, g2, g3⟩ := h'
  refine ⟨by simp [spliceV, Ka.splice]; omega, fun j x hj => ?_, fun j y x hy hx => ?_⟩
  · rw [splice_at hf] at hj
    split at hj
    · exact g2 _ _ hj
    · exact h2 _ _ hj
  · rw [splice_at hf] at hx
    rw [spliceV_at (by omega)] at hy
    by_cases hc : off ≤ j ∧ j < off + ds.length
    · rw [if_pos hc] at hx
      rw [if_pos (by omega)] at hy
      exact g3 _ _ _ hy hx
    · rw [if_neg hc] at hx
      rw [if_neg (by omega)] at hy
      exact h3 _ _ _ hy hx

theorem fold_set (off : Nat) : ∀ (vs : List Value) (k : Nat) (l : List Value), off + k + vs.length ≤ l.length →
    ((vs.zipIdx k).foldl (fun (cs : Array Value) (p : Value × Nat) => cs.setIfInBounds (off + p.2) p.1) l.toArray) = (spliceV l (off + k) vs).toArray := by
  intro vs
  induction vs with
  | nil => intro k l _; simp [spliceV]
  | cons v r ih =>
    intro k l h
    simp only [List.length_cons] at h
    simp only [List.zipIdx_cons, List.foldl_cons]
    rw [List.setIfInBounds_toArray, ih (k + 1) (l.set (off + k) v) (by simp; omega)]
    congr 1
    unfold spliceV
    have e1 : off + (k + 1) = off + k + 1 := by omega
    rw [e1, take_set_succ l (off + k) v (by omega), List.drop_set_of_lt (by omega)]
    simp only [List.append_assoc, List.singleton_append, List.length_cons]
    have e2 : off + k + 1 + r.length = off + k + (r.length + 1) := by omega
    rw [e2]

theorem fill_cons {place : Nat → Option (Nat × Nat)} {l vs : List Value} {i off : Nat} {v : Value} {rest : List (Nat × Value)} (hp : place i = some (off, vs.length)) (hv : v.cells = vs.toArray) (hf : off + vs.length ≤ l.length) :
    Instr.fill place l.toArray ((i, v) :: rest) = Instr.fill place (spliceV l off vs).toArray rest := by
  have h := fold_set off vs 0 l (by omega)
  rw [Instr.fill, hp]
  simp only [hv, List.size_toArray]
  rw [if_neg (by simp; omega)]
  rw [Nat.add_zero] at h
  have h2 : Array.foldl (fun (cs : Array Value) (x : Value × Nat) => cs.setIfInBounds (off + x.2) x.1) l.toArray vs.toArray.zipIdx = (spliceV l off vs).toArray := by
    rw [← h, ← Array.foldl_toList, Array.toList_zipIdx]
  exact congrArg (fun c => Instr.fill place c rest) h2

/-- The parts laid over the cells. -/
def vfill (pl : Nat → Option (Nat × Nat)) : List (Nat × V) → List V → Option (List V)
  | [], cs => some cs
  | (i, u) :: r, cs => match pl i, vcells u with
    | some (d, n), some us => if us.length = n ∧ d + n ≤ cs.length then vfill pl r (splice cs d us) else none
    | _, _ => none

theorem vfill_run {F : Fz} {ν : Nu} {pl : Nat → Option (Nat × Nat)} : ∀ (ps : List (Nat × V)) (qs : List (Nat × Value)) (cs : List V) (vs : List Value) (ds : List V), ps.length = qs.length →
    (∀ (j i : Nat) (u : V), ps[j]? = some (i, u) → ∃ v, qs[j]? = some (i, v) ∧ Rel F ν v u) → RL F ν vs cs → vfill pl ps cs = some ds → ∃ ws, Instr.fill pl vs.toArray qs = some ws.toArray ∧ RL F ν ws ds := by
  intro ps
  induction ps with
  | nil =>
    intro qs cs vs ds hl _ hr h
    cases qs with
    | nil =>
      simp only [vfill, Option.some.injEq] at h
      subst h
      exact ⟨vs, rfl, hr⟩
    | cons => simp at hl
  | cons p r ih =>
    intro qs cs vs ds hl hq hr h
    obtain ⟨i, u⟩ := p
    cases qs with
    | nil => simp at hl
    | cons q qs =>
      obtain ⟨v, hv, hru⟩ := hq 0 i u rfl
      simp at hv
      subst hv
      unfold vfill at h
      split at h
      · rename_i d n us hp hu
        split at h
        · rename_i hc
          obtain ⟨rfl, hfit⟩ := hc
          obtain ⟨ws, hw, hlw, hce, hrw⟩ := vcells_rel hru hu
          have hrl : RL F ν ws us := ⟨hlw, hce, hrw⟩
          rw [← hlw] at hp
          rw [fill_cons hp hw (by rw [hr.1, hlw]; exact hfit)]
          exact ih qs _ _ ds (by simpa using hl) (fun j i u hj => hq (j + 1) i u (by simpa using hj)) (hr.splice hrl hfit) h
        · cases h
      · cases h

def plOf (P : Program) (t : Nat) : Option (List (Nat × Nat)) := match P.underlying t with
  | some (.struct fs) => fs.toList.mapM fun f => (P.info? f.type).map fun i => (f.offset, i.size)
  | _ => none

theorem zcells_info {P : Program} {t : Nat} {cs : List V} (h : zcells P t = some cs) : ∃ i z, P.info? t = some i ∧ i.zero = some z ∧ ∃ vs : List Value, z.cells = vs.toArray ∧ cs = vs.map .val ∧ ∀ v ∈ vs, v.oneCell' = true := by
  obtain ⟨z, hz, rest⟩ := zcells_run h (default : World)
  unfold zcells at h
  cases hi : P.info? t with
  | none => simp [hi] at h
  | some i =>
    simp only [hi, Option.bind_some] at h
    cases hz' : i.zero with
    | none => simp [hz'] at h
    | some z' =>
      simp [zeroValue, typeInfo, hi, hz'] at hz
      subst hz
      exact ⟨i, _, rfl, hz', rest⟩

theorem RL.vals {F : Fz} {ν : Nu} {vs : List Value} (h : ∀ v ∈ vs, v.oneCell' = true) : RL F ν vs (vs.map .val) := by
  refine ⟨by simp, fun j x hj => ?_, fun j y x hy hx => ?_⟩
  · rw [List.getElem?_map] at hj
    cases hv : vs[j]? with
    | none => simp [hv] at hj
    | some v => simp [hv] at hj; subst hj; rfl
  · rw [List.getElem?_map, hy] at hx
    simp at hx
    subst hx
    exact .val y (h y (List.mem_of_getElem? hy))

theorem RL.agg {F : Fz} {ν : Nu} {vs : List Value} {cs : List V} (h : RL F ν vs cs) : Rel F ν (.agg vs.toArray) (.agg cs) := .agg vs cs h.1 h.2.1 h.2.2

def evs (σ : Nat → V) (ps : List (Nat × Operand)) : List (Nat × V) := ps.map fun p => (p.1, ev σ p.2)

section
variable {P : Program} {B : Gd} {σ : Nat → V} {M : Hp} {id : Nat} {K : V → Hp → Prop} {dst : Option Nat} {ty : Nat} {pos : String} {after : Array Edge} {guard : Option (Nat × Bool)}

theorem parts_rel {ac : Act} {F : Fz} {ν : Nu} (hm : Maps ac F ν σ) (ps : List (Nat × Operand)) : (evs σ ps).length = (ps.map fun p => (p.1, ac.eval p.2)).length ∧
    ∀ (j i : Nat) (u : V), (evs σ ps)[j]? = some (i, u) → ∃ v, (ps.map fun p => (p.1, ac.eval p.2))[j]? = some (i, v) ∧ Rel F ν v u := by
  refine ⟨by simp [evs], fun j i u hj => ?_⟩
  simp only [evs, List.getElem?_map] at hj ⊢
  cases hp : ps[j]? with
  | none => simp [hp] at hj
  | some p =>
    simp [hp] at hj
    obtain ⟨rfl, rfl⟩ := hj
    exact ⟨_, by simp, ev_rel hm p.2⟩

theorem w_build {t : Nat} {parts : Array (Nat × Operand)} {pl : List (Nat × Nat)} {zs cs : List V} (hz : zcells P t = some zs) (hp : plOf P t = some pl) (hc : vfill (pl[·]?) (evs σ parts.toList) zs = some cs) (hK : K (.agg cs) M) :
    OpW P B ⟨dst, .build t parts, ty, pos, after, guard⟩ σ M id K := by
  refine opw_of hK fun ac w F ν hok hm => ?_
  obtain ⟨i, z, hi, hz1, vs, hv, rfl, h1⟩ := zcells_info hz
  obtain ⟨hl, hq⟩ := parts_rel hm parts.toList
  obtain ⟨ws, hw, hr⟩ := vfill_run _ _ _ _ _ hl hq (RL.vals (F := F) (ν := ν) h1) hc
  have hb : P.built t (parts.map fun p => (p.1, ac.eval p.2)).toList = some ws.toArray := by
    unfold plOf at hp
    cases hu : P.underlying t with
    | none => simp [hu] at hp
    | some d =>
      cases d <;> simp [hu] at hp
      rename_i fs
      unfold Program.built
      simp only [hi, hu, hz1, hp, hv, Array.toList_map]
      simpa using hw
  exact ⟨.agg ws.toArray, by simp [execOp, run_build w t _ _ hb], hr.agg⟩

theorem w_makeFunc {f : Nat} {caps : Array Operand} (hK : K (.fn f (caps.toList.map (ev σ))) M) : OpW P B ⟨dst, .makeFunc (.func f) #[] caps, ty, pos, after, guard⟩ σ M id K := by
  refine opw_of hK fun ac w F ν hok hm => ?_
  refine ⟨.func (.func f) #[] (caps.toList.map ac.eval).toArray, by simp [execOp, Instr.makeFunc, ← Array.toList_map], ?_⟩
  refine .fn f _ _ (by simp) (fun j v u hv hu => ?_)
  rw [List.getElem?_map] at hv hu
  cases hx : caps.toList[j]? with
  | none => simp [hx] at hv
  | some x =>
    simp [hx] at hv hu
    subst hv; subst hu
    exact ev_rel hm x

def wordOf (P : Program) (t : Nat) : Option IntKind := match P.underlying t with | some (.int k) => some k | _ => none
theorem wordOf_und {P : Program} {t : Nat} {k : IntKind} (h : wordOf P t = some k) : P.underlying t = some (.int k) := by
  unfold wordOf at h
  split at h
  · cases h; assumption
  · cases h

theorem w_convInt {src d : Nat} {x : Operand} {k k' : IntKind} {n : Int} (hs : (P.underlying src).isSome = true) (hd : wordOf P d = some k') (hx : ev σ x = .val (.int k n)) (hK : K (.val (.int k' (k'.wrap n))) M) :
    OpW P B ⟨dst, .convert src d x, ty, pos, after, guard⟩ σ M id K := by
  refine opw_of hK fun ac w F ν hok hm => ?_
  have h1 := ev_rel hm x
  rw [hx] at h1
  have e1 := rel_val h1
  obtain ⟨u, hu⟩ := Option.isSome_iff_exists.1 hs
  refine ⟨.int k' (k'.wrap n), ?_, .val _ rfl⟩
  simp only [execOp, e1]
  simp [convert, run_underlying hu, run_underlying (wordOf_und hd), Conv.intToInt]

theorem w_convStr {src d : Nat} {x : Operand} {s : ByteArray} (hs : isStr P src = true) (hd : isStr P d = true) (hx : ev σ x = .val (.string s)) (hK : K (.val (.string s)) M) :
    OpW P B ⟨dst, .convert src d x, ty, pos, after, guard⟩ σ M id K := by
  refine opw_of hK fun ac w F ν hok hm => ?_
  have h1 := ev_rel hm x
  rw [hx] at h1
  have e1 := rel_val h1
  refine ⟨.string s, ?_, .val _ rfl⟩
  simp only [execOp, e1]
  simp [convert, run_underlying (isStr_und hs), run_underlying (isStr_und hd)]

/-- A byte, as an element. -/
def byteEl (b : UInt8) : List V := [.val (.int .u8 b.toNat)]

theorem w_toBytes {src d e : Nat} {x : Operand} {s : ByteArray} (hs : isStr P src = true) (hd : elOf P d = some e) (he : wordOf P e = some .u8) (hx : ev σ x = .val (.string s)) (hb : s.data.toList.length ≤ maxLen)
    (hK : K (.own id 0 s.data.toList.length) (setM M id (some ⟨s.data.toList.map byteEl, 1⟩))) : OpW P B ⟨dst, .convert src d x, ty, pos, after, guard⟩ σ M id K := by
  refine opw_on hK fun ac w F ν hok hid hm => ?_
  have h1 := ev_rel hm x
  rw [hx] at h1
  have e1 := rel_val h1
  have hrun := Lib.run_convert_string_bytes (P := P) w src d e s (isStr_und hs) (elOf_und hd) (wordOf_und he)
  have hsz : s.data.toList.length = s.size := by simp
  have hnew := Lib.bytesWorld_at_new w e s
  have hcap : s.size ≤ grownCap w s.size 0 e := grownCap_ge w _ _ _
  have hcm : grownCap w s.size 0 e ≤ maxLen := grownCap_le_maxLen w _ _ _ (by omega)
  have hcells : (Lib.bytesCells w e s).size = grownCap w s.size 0 e := by
    simp [Lib.bytesCells]
    have : s.data.size = s.size := rfl
    omega
  have ok1 : Ok B F ν M (Lib.bytesWorld w e s) := hok.on rfl rfl rfl (by rw [Lib.bytesWorld_size]; omega) (fun b hb => Lib.bytesWorld_at_old w e s b hb)
  have h2 := ok1.made (id := id) (o := ⟨s.data.toList.map byteEl, 1⟩) hid hnew (hok.noF (Nat.le_refl _)) (hok.notOb (Nat.le_refl _)) (.inr hok.size) (fun x hx => by simp; omega)
    (fun i el hi => by
      rw [List.getElem?_map] at hi
      cases hy : s.data.toList[i]? with
      | none => simp [hy] at hi
      | some y => simp [hy] at hi; subst hi; rfl) (by rw [hcells, List.length_map, hsz]; simpa using hcap) (fun i el j u hi hj => by
      rw [List.getElem?_map] at hi
      cases hy : s.data.toList[i]? with
      | none => simp [hy] at hi
      | some y =>
        simp [hy] at hi
        subst hi
        cases j with
        | succ j => simp [byteEl] at hj
        | zero =>
          simp [byteEl] at hj
          subst hj
          refine ⟨rfl, .int .u8 y.toNat, ?_, .val _ rfl⟩
          have hlt := (List.getElem?_eq_some_iff.1 hy).1
          unfold Lib.bytesCells
          rw [Array.getElem?_append_left (by simpa using hlt)]
          simp only [Nat.mul_one, Nat.add_zero, Array.getElem?_map]
          rw [← Array.getElem?_toList, hy]
          rfl)
  refine ⟨.value (.slice (some ⟨w.heap.size, 0, none⟩) s.size (grownCap w s.size 0 e)), .slice (some ⟨w.heap.size, 0, none⟩) s.size (grownCap w s.size 0 e), _, F, _, ?_, .inl rfl, h2.1, Fz.le_refl _, h2.2, setN_other, ?_⟩
  · simp only [execOp, e1]
    simp [hrun]
  · rw [hsz]
    exact .own id 0 s.size _ _ ⟨w.heap.size, 1, (Lib.bytesCells w e s).size, false, e⟩ (by simp [setN]) hcap hcm (fun _ => ⟨by simp, by simp [hcells]⟩) (.inr ⟨_, rfl, rfl⟩)
end
end Go.Ka
