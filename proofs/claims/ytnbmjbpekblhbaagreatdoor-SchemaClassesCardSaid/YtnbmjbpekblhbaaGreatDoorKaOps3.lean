/- Operations, the third part: places in slices, cuts, stores, new variables, structs. -/
import Derived.Test.YtnbmjbpekblhbaaGreatDoorKaOps2
set_option linter.all false
namespace Go.Ka
open Go.RowKit
variable [Tab]

/-- An element's place. -/
def vidx (M : Hp) (sz : Nat) (u : V) (n : Nat) : Option V :=
  match u with
  | .arr els => (els[n]?).bind fun el => if el.length = sz then some (.iptr el) else none
  | .own id a m => if n < m then (M id).bind fun o => if o.sz = sz then some (.ptr id (a + n) 0) else none else none
  | _ => none

/-- A part of a slice. -/
def vcut (M : Hp) (sz : Nat) (u : V) (l h : Nat) : Option V :=
  match u with
  | .arr els => if l ≤ h ∧ h ≤ els.length ∧ (∀ el ∈ els, el.length = sz) then some (.arr ((els.drop l).take (h - l))) else none
  | .own id a m => if l ≤ h ∧ h ≤ m then (M id).bind fun o => if o.sz = sz then some (.own id (a + l) (h - l)) else none else none
  | .val (.slice none 0 0) => if l = 0 ∧ h = 0 then some (.val (.slice none 0 0)) else none
  | _ => none

/-- A value's cells. -/
def vcells : V → Option (List V)
  | .agg cs => some cs
  | .tup _ => none
  | .any => none
  | u => some [u]

theorem vcells_rel {F : Fz} {ν : Nu} {v : Value} {u : V} (h : Rel F ν v u) {cs : List V} (hc : vcells u = some cs) :
    ∃ vs : List Value, v.cells = vs.toArray ∧ vs.length = cs.length ∧ (∀ (j : Nat) (x : V), cs[j]? = some x → x.cell = true) ∧ ∀ (j : Nat) (y : Value) (x : V), vs[j]? = some y → cs[j]? = some x → Rel F ν y x := by
  have one : u.cell = true → v.cells = #[v] → cs = [u] → ∃ vs : List Value, v.cells = vs.toArray ∧ vs.length = cs.length ∧ (∀ (j : Nat) (x : V), cs[j]? = some x → x.cell = true) ∧ ∀ (j : Nat) (y : Value) (x : V), vs[j]? = some y → cs[j]? = some x → Rel F ν y x := by
    intro hu e1 e2
    subst e2
    refine ⟨[v], e1, rfl, fun j x hj => ?_, fun j y x hj hx => ?_⟩
    · cases j <;> simp at hj
      subst hj; exact hu
    · cases j <;> simp at hj hx
      subst hj; subst hx; exact h
  cases h with
  | agg vs cs' hl hce hr =>
    simp [vcells] at hc
    subst hc
    exact ⟨vs, rfl, hl, hce, hr⟩
  | any v => simp [vcells] at hc
  | tup => simp [vcells] at hc
  | val v hv =>
    simp [vcells] at hc
    exact one rfl (by cases v <;> first | rfl | (simp [Value.oneCell'] at hv)) hc.symm
  | arr => simp [vcells] at hc; exact one rfl rfl hc.symm
  | iptr => simp [vcells] at hc; exact one rfl rfl hc.symm
  | fn => simp [vcells] at hc; exact one rfl rfl hc.symm
  | own => simp [vcells] at hc; exact one rfl rfl hc.symm
  | ptr => simp [vcells] at hc; exact one rfl rfl hc.symm
  | nz => simp [vcells] at hc; exact one rfl rfl hc.symm
  | sp => simp [vcells] at hc; exact one rfl rfl hc.symm
  | ps => simp [vcells] at hc; exact one rfl rfl hc.symm
  | ub => simp [vcells] at hc; exact one rfl rfl hc.symm
  | pp => simp [vcells] at hc; exact one rfl rfl hc.symm
  | owt => simp [vcells] at hc; exact one rfl rfl hc.symm

theorem take_set_succ {α : Type} (l : List α) (n : Nat) (v : α) (h : n < l.length) : (l.set n v).take (n + 1) = l.take n ++ [v] := by
  rw [List.set_eq_take_append_cons_drop, if_pos h, List.take_append, List.take_of_length_le (by simp; omega), List.length_take, Nat.min_eq_left (by omega)]
  simp

/-- A store of cells into a block. -/
theorem run_cells_at {P : Program} {w : World} {b o : Nat} {cur : Array Value} {ty : TypeId} {fr : Nat × Nat} (hb : w.heap[b]? = some (.cells cur ty fr)) {vs : List Value} (hfit : o + vs.length ≤ cur.size)
    (hfr : ∀ x, x < cur.size → ¬ (fr.1 ≤ x ∧ x < fr.2)) (h1 : ∀ v ∈ vs, v.oneCell' = true) :
    ∃ w', (storeCells ⟨b, o, none⟩ vs).run P w = .ok () w' ∧ w'.heap[b]? = some (.cells (cur.toList.take o ++ vs ++ cur.toList.drop (o + vs.length)).toArray ty fr) ∧
      (∀ k, k ≠ b → w'.heap[k]? = w.heap[k]?) ∧ w'.heap.size = w.heap.size ∧ w'.os = w.os ∧ w'.tape = w.tape ∧ w'.output = w.output := by
  have key : ∀ (vs : List Value) (i : Nat) (w : World) (cur : Array Value), w.heap[b]? = some (.cells cur ty fr) → o + i + vs.length ≤ cur.size → (∀ x, x < cur.size → ¬ (fr.1 ≤ x ∧ x < fr.2)) → (∀ v ∈ vs, v.oneCell' = true) →
      ∃ w', (storeCells ⟨b, o, none⟩ vs i).run P w = .ok () w' ∧ w'.heap[b]? = some (.cells (cur.toList.take (o + i) ++ vs ++ cur.toList.drop (o + i + vs.length)).toArray ty fr) ∧
      (∀ k, k ≠ b → w'.heap[k]? = w.heap[k]?) ∧ w'.heap.size = w.heap.size ∧ w'.os = w.os ∧ w'.tape = w.tape ∧ w'.output = w.output := by
    intro vs
    induction vs with
    | nil =>
      intro i w cur hb _ _ _
      refine ⟨w, by simp [storeCells], ?_, fun _ _ => rfl, rfl, rfl, rfl, rfl⟩
      simp [hb]
    | cons v r ih =>
      intro i w cur hb hfit hfr h1
      simp only [List.length_cons] at hfit
      have hcell : w.cell? ⟨b, o + i, none⟩ = some cur[o + i] := by rw [cell_at hb]; exact Array.getElem?_eq_getElem (by omega)
      have hfz : w.frozen? ⟨b, o + i, none⟩ = false := by
        have := hfr (o + i) (by omega)
        obtain ⟨lo, hi⟩ := fr
        simp [World.frozen?, hb] at this ⊢
        exact this
      have hset : (w.setCell ⟨b, o + i, none⟩ v).heap[b]? = some (.cells (cur.setIfInBounds (o + i) v) ty fr) := by
        simp [World.setCell, Array.getElem?_modify, hb]
      obtain ⟨w', hr, hb', hk, hs, h2, h3, h4⟩ := ih (i + 1) (w.setCell ⟨b, o + i, none⟩ v) (cur.setIfInBounds (o + i) v) hset (by simp; omega) (by simpa using hfr) (fun x hx => h1 x (by simp [hx]))
      refine ⟨w', ?_, ?_, fun k hne => ?_, by rw [hs]; simp [World.setCell], h2, h3, h4⟩
      · simp only [storeCells, Addr.add_lit, Sem.run_bind, run_store P w _ v _ (h1 v (by simp)), hcell, hfz]
        simpa [Result.andThen] using hr
      · rw [hb']
        congr 3
        have e1 : o + (i + 1) = o + i + 1 := by omega
        rw [e1, Array.toList_setIfInBounds]
        have e2 := take_set_succ cur.toList (o + i) v (by simp; omega)
        rw [e2, List.drop_set_of_lt (by omega)]
        simp only [List.append_assoc, List.singleton_append, List.length_cons]
        congr 3
        omega
      · rw [hk k hne]
        simp [World.setCell, Array.getElem?_modify, Ne.symm hne]
  have := key vs 0 w cur hb (by simpa using hfit) hfr h1
  simpa using this

def vbd (σ : Nat → V) : Option Operand → Nat → Option Nat
  | none, d => some d
  | some x, _ => match ev σ x with
    | .val (.int _ i) => if 0 ≤ i then some i.toNat else none
    | _ => none

theorem vbd_val {a : Act} {F : Fz} {ν : Nu} {σ : Nat → V} (hm : Maps a F ν σ) {lo : Option Operand} {d l : Nat} (h : vbd σ lo d = some l) :
    (lo = none ∧ l = d) ∨ ∃ x k i, lo = some x ∧ a.eval x = .int k i ∧ 0 ≤ i ∧ i.toNat = l := by
  cases lo with
  | none => left; simpa [vbd, eq_comm] using h
  | some x =>
    right
    simp only [vbd] at h
    have hr := ev_rel hm x
    split at h
    · rename_i k i he
      rw [he] at hr
      split at h
      · rename_i h0
        exact ⟨x, k, i, rfl, rel_val hr, h0, by simpa using h⟩
      · cases h
    · cases h

theorem bound_run {P : Program} {w : World} {k : IntKind} {i : Int} {y : Nat} {code : BoundsCode} (h0 : 0 ≤ i) (h : i.toNat ≤ y) : (Instr.sliceBound (.int k i) y code).run P w = .ok i.toNat w := by
  have : i ≤ (y : Int) := by omega
  simp [Instr.sliceBound, asIntOf, h0, this]

theorem bounds_run {P : Program} {w : World} {a : Act} {F : Fz} {ν : Nu} {σ : Nat → V} (hm : Maps a F ν σ) {lo hi : Option Operand} {n c l h : Nat} {b : Bool} (hl : vbd σ lo 0 = some l) (hh : vbd σ hi n = some h) (h1 : l ≤ h) (h2 : h ≤ n) (h3 : n ≤ c) :
    (Instr.sliceBounds b n c (lo.map a.eval) (hi.map a.eval) none).run P w = .ok (l, h, c) w := by
  rcases vbd_val hm hl with ⟨rfl, rfl⟩ | ⟨x, k, i, rfl, ex, hx0, rfl⟩ <;> rcases vbd_val hm hh with ⟨rfl, rfl⟩ | ⟨y, k', i', rfl, ey, hy0, rfl⟩
  · simp [Instr.sliceBounds]
  · simp [Instr.sliceBounds, ey, bound_run hy0 (show i'.toNat ≤ c by omega)]
  · simp [Instr.sliceBounds, ex, bound_run hx0 h1]
  · simp [Instr.sliceBounds, ex, ey, bound_run hy0 (show i'.toNat ≤ c by omega), bound_run hx0 h1]

section
variable {P : Program} {B : Gd} {σ : Nat → V} {M : Hp} {id : Nat} {K : V → Hp → Prop} {dst : Option Nat} {ty : Nat} {pos : String} {after : Array Edge} {guard : Option (Nat × Bool)}

theorem w_indexAddr {t e sz : Nat} {x y : Operand} {k : IntKind} {i : Int} {u : V} (ht : elOf P t = some e) (hs : szOf P e = some sz) (hy : ev σ y = .val (.int k i)) (h0 : 0 ≤ i) (hu : vidx M sz (ev σ x) i.toNat = some u) (hK : K u M) :
    OpW P B ⟨dst, .indexAddr t x y, ty, pos, after, guard⟩ σ M id K := by
  refine opw_of hK fun ac w F ν hok hm => ?_
  have h2 := ev_rel hm y
  rw [hy] at h2
  have e2 := rel_val h2
  have h1 := ev_rel hm x
  generalize hv : ac.eval x = v at h1
  generalize ev σ x = ux at h1 hu
  cases h1 with
  | arr A n c sz0 els vals hn hc hm' hsz hce hA hr =>
    simp only [vidx] at hu
    cases he : els[i.toNat]? with
    | none => simp [he] at hu
    | some el =>
      simp only [he, Option.bind_some] at hu
      split at hu
      · rename_i hl
        simp only [Option.some.injEq] at hu
        subst hu
        have hlt := (List.getElem?_eq_some_iff.1 he).1
        obtain ⟨b, o, rfl, hf⟩ := hA (by omega)
        have hsz0 : sz0 = sz := (hsz _ _ he).symm.trans hl
        subst hsz0
        have hin : i < (n : Int) := by omega
        refine ⟨.pointer (some ⟨b, o + i.toNat * sz0, none⟩), by simp [execOp, hv, e2, Instr.indexAt, asIntOf, run_underlying (elOf_und ht), h0, hin, szOf_run hs, Addr.add_lit], ?_⟩
        exact .iptr b _ _ (fun j => vals i.toNat j) (fun j u hj => hce _ _ _ _ he hj) (fun j u hj => hf _ _ _ _ he hj) (fun j u hj => hr _ _ _ _ he hj)
      · cases hu
  | own id' a n c A kk hk hc hm' hA hB =>
    simp only [vidx] at hu
    split at hu
    · rename_i hlt
      cases hM : M id' with
      | none => simp [hM] at hu
      | some ob =>
        simp only [hM, Option.bind_some] at hu
        split at hu
        · rename_i hl
          simp only [Option.some.injEq] at hu
          subst hu
          have h4 := (hok.at hM hk).1.szEq
          obtain ⟨rfl, _⟩ := hA (by omega)
          have hin : i < (n : Int) := by omega
          refine ⟨.pointer (some ⟨kk.b, a * kk.sz + i.toNat * sz, none⟩), by simp [execOp, hv, e2, Instr.indexAt, asIntOf, run_underlying (elOf_und ht), h0, hin, szOf_run hs, Addr.add_lit], ?_⟩
          have := Rel.ptr (F := F) (ν := ν) id' (a + i.toNat) 0 kk hk
          have e3 : (a + i.toNat) * kk.sz + 0 = a * kk.sz + i.toNat * sz := by rw [h4, hl, Nat.add_mul]; rfl
          rw [e3] at this
          exact this
        · cases hu
    · cases hu
  | _ => simp [vidx] at hu

theorem w_index {t : Nat} {x y : Operand} {s : ByteArray} {k : IntKind} {i : Int} (ht : P.underlying t = some .string) (hx : ev σ x = .val (.string s)) (hy : ev σ y = .val (.int k i)) (h0 : 0 ≤ i) (h1 : i.toNat < s.data.toList.length)
    (hK : K (.val (.int .u8 (s.data.toList.getD i.toNat 0).toNat)) M) : OpW P B ⟨dst, .index t x y, ty, pos, after, guard⟩ σ M id K := by
  refine opw_of hK fun ac w F ν hok hm => ?_
  have h2 := ev_rel hm y
  rw [hy] at h2
  have e2 := rel_val h2
  have h3 := ev_rel hm x
  rw [hx] at h3
  have e3 := rel_val h3
  have hsz : i.toNat < s.size := by simpa using h1
  have hb : s[i.toNat]? = some (s.data.toList.getD i.toNat 0) := by
    rw [List.getD_eq_getElem?_getD, List.getElem?_eq_getElem h1]
    rw [getElem?_pos s i.toNat hsz]
    rfl
  exact ⟨_, by simp [execOp, e2, e3, Instr.index, asIntOf, run_underlying ht, h0, hb], .val _ rfl⟩

theorem w_sliceStr {t : Nat} {x : Operand} {lo hi : Option Operand} {s : ByteArray} {l h : Nat} (ht : P.underlying t = some .string) (hx : ev σ x = .val (.string s)) (hl : vbd σ lo 0 = some l) (hh : vbd σ hi s.data.toList.length = some h) (h1 : l ≤ h) (h2 : h ≤ s.data.toList.length)
    (hK : K (.val (str ((s.data.toList.drop l).take (h - l)))) M) : OpW P B ⟨dst, .slice t x lo hi none, ty, pos, after, guard⟩ σ M id K := by
  refine opw_of hK fun ac w F ν hok hm => ?_
  have h3 := ev_rel hm x
  rw [hx] at h3
  have e3 := rel_val h3
  have hs : s.data.toList.length = s.size := by simp
  rw [hs] at hh h2
  have hb := bounds_run (P := P) (w := w) (b := false) (c := s.size) hm hl hh h1 h2 (Nat.le_refl _)
  have he : s.extract l h = (⟨((s.data.toList.drop l).take (h - l)).toArray⟩ : ByteArray) := by
    apply ByteArray.ext
    apply Array.toList_inj.1
    rw [Lib.extract_data]
  exact ⟨str ((s.data.toList.drop l).take (h - l)), by simp [execOp, e3, Instr.sliceAt, Instr.slice, run_underlying ht, hb, he, str], .val _ rfl⟩

theorem w_slice {t e sz n l h : Nat} {x : Operand} {lo hi : Option Operand} {u : V} (ht : elOf P t = some e) (hs : szOf P e = some sz) (hn : vlen (ev σ x) = some n) (hl : vbd σ lo 0 = some l) (hh : vbd σ hi n = some h) (hu : vcut M sz (ev σ x) l h = some u) (hK : K u M) :
    OpW P B ⟨dst, .slice t x lo hi none, ty, pos, after, guard⟩ σ M id K := by
  refine opw_of hK fun ac w F ν hok hm => ?_
  have h1 := ev_rel hm x
  have run : ∀ A c, ac.eval x = .slice A n c → l ≤ h → h ≤ n → n ≤ c → (execOp ac.eval ⟨dst, .slice t x lo hi none, ty, pos, after, guard⟩).run P w = .ok (.value (.slice (if c = l then A else A.map (·.add (l * sz))) (h - l) (c - l))) w := by
    intro A c hv a1 a2 a3
    simp [execOp, hv, Instr.sliceAt, Instr.slice, run_underlying (elOf_und ht), bounds_run (P := P) (w := w) (b := true) hm hl hh a1 a2 a3, szOf_run hs]
  generalize hv : ac.eval x = v at h1
  generalize hux : ev σ x = ux at h1 hu hn
  cases h1 with
  | arr A n' c sz0 els vals hn' hc hm' hsz hce hA hr =>
    simp only [vlen, Option.some.injEq] at hn
    simp only [vcut] at hu
    split at hu
    · rename_i hc3
      obtain ⟨c1, c2, c3⟩ := hc3
      simp only [Option.some.injEq] at hu
      subst hu
      subst hn
      subst hn'
      refine ⟨_, run A c hv c1 c2 hc, ?_⟩
      have sub : ∀ (i : Nat) (el : List V), ((els.drop l).take (h - l))[i]? = some el → els[l + i]? = some el ∧ i < h - l := by
        intro i el hi
        rw [List.getElem?_take] at hi
        split at hi
        · rw [List.getElem?_drop] at hi
          exact ⟨hi, by assumption⟩
        · cases hi
      refine .arr _ _ _ sz0 _ (fun i j => vals (l + i) j) (by simp; omega) (by omega) (by omega) (fun i el hi => hsz _ _ (sub _ _ hi).1) (fun i el j u hi hj => hce _ _ _ _ (sub _ _ hi).1 hj) (fun h0 => ?_) (fun i el j u hi hj => hr _ _ _ _ (sub _ _ hi).1 hj)
      obtain ⟨b, o, rfl, hf⟩ := hA (by omega)
      have hcl : ¬ c = l := by omega
      have hsz0 : sz0 = sz := by
        have hlt : l < els.length := by omega
        have := hsz l els[l] (List.getElem?_eq_getElem hlt)
        rw [← this]
        exact c3 _ (List.getElem_mem hlt)
      subst hsz0
      refine ⟨b, o + l * sz0, by simp [hcl, Addr.add_lit], fun i el j u hi hj => ?_⟩
      have := hf _ _ _ _ (sub _ _ hi).1 hj
      rw [← this, Nat.add_mul]
      congr 1
      omega
    · cases hu
  | own id' a n' c A kk hk hc hm' hA hB =>
    simp only [vlen, Option.some.injEq] at hn
    subst hn
    simp only [vcut] at hu
    split at hu
    · rename_i hc3
      obtain ⟨c1, c2⟩ := hc3
      cases hM : M id' with
      | none => simp [hM] at hu
      | some ob =>
        simp only [hM, Option.bind_some] at hu
        split at hu
        · rename_i hl'
          simp only [Option.some.injEq] at hu
          subst hu
          have g4 := (hok.at hM hk).1.szEq
          refine ⟨_, run A c hv c1 c2 hc, ?_⟩
          refine .own id' (a + l) (h - l) (c - l) _ kk hk (by omega) (by omega) (fun h0 => ?_) ?_
          · have hcl : ¬ c = l := by omega
            obtain ⟨rfl, hcap⟩ := hA (by omega)
            refine ⟨?_, ?_⟩
            · simp only [hcl, if_false, Option.map_some, Addr.add_lit]
              rw [Nat.add_mul, g4, hl']
            · have : a + l + (c - l) = a + c := by omega
              rw [this]
              exact hcap
          · rcases hB with rfl | ⟨off, rfl, hv2⟩
            · left; split <;> rfl
            · right
              split
              · exact ⟨_, rfl, hv2⟩
              · exact ⟨off + l * sz, by simp [Addr.add_lit], hv2⟩
        · cases hu
    · cases hu
  | val v' hv' =>
    unfold vcut at hu
    split at hu
    · rename_i e'; cases e'
    · rename_i e'; cases e'
    · rename_i e'
      injection e' with e'
      subst e'
      split at hu
      · rename_i hc3
        obtain ⟨rfl, rfl⟩ := hc3
        simp only [Option.some.injEq] at hu
        subst hu
        simp only [vlen, Option.some.injEq] at hn
        subst hn
        refine ⟨_, run none 0 hv (Nat.le_refl _) (Nat.le_refl _) (Nat.le_refl _), ?_⟩
        simp
        exact .val _ rfl
      · cases hu
    · cases hu
  | _ => simp [vcut] at hu
end
end Go.Ka
