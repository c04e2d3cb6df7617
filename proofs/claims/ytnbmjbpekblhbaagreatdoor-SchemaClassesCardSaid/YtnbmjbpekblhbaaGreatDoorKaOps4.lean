/- Operations, the fourth part: what writes, and what makes memory. -/
import Derived.Test.YtnbmjbpekblhbaaGreatDoorKaOps3
set_option linter.all false
namespace Go.Ka
open Go.RowKit
variable [Tab]

theorem heap_new (w : World) (o : Obj) : (w.alloc o).heap[w.heap.size]? = some o := heap_alloc_new w o
theorem heap_old (w : World) (o : Obj) {k : Nat} (h : k < w.heap.size) : (w.alloc o).heap[k]? = w.heap[k]? := Below.heap_alloc w o k h

theorem flat_at {α : Type} : ∀ (els : List (List α)) (sz : Nat), (∀ (i : Nat) (el : List α), els[i]? = some el → el.length = sz) → ∀ (i j : Nat) (el : List α) (u : α), els[i]? = some el → el[j]? = some u → els.flatten[i * sz + j]? = some u := by
  intro els sz
  induction els with
  | nil => intro _ i j el u h; simp at h
  | cons e r ih =>
    intro hl i j el u hi hj
    have he := hl 0 e rfl
    rw [List.flatten_cons]
    cases i with
    | zero =>
      simp at hi
      subst hi
      have := (List.getElem?_eq_some_iff.1 hj).1
      rw [Nat.zero_mul, Nat.zero_add, List.getElem?_append_left this, hj]
    | succ i =>
      simp at hi
      rw [List.getElem?_append_right (by rw [he, Nat.add_mul]; omega)]
      have : (i + 1) * sz + j - e.length = i * sz + j := by rw [he, Nat.add_mul]; omega
      rw [this]
      exact ih (fun i el h => hl (i + 1) el (by simpa using h)) i j el u hi hj

theorem flat_len {α : Type} : ∀ (els : List (List α)) (sz : Nat), (∀ el ∈ els, el.length = sz) → els.flatten.length = els.length * sz := by
  intro els sz
  induction els with
  | nil => intro _; simp
  | cons e r ih =>
    intro h
    rw [List.flatten_cons, List.length_append, ih (fun el hel => h el (by simp [hel])), h e (by simp), List.length_cons, Nat.add_mul]
    omega

section
variable {B : Gd} {F : Fz} {ν : Nu} {M : Hp} {w : World}

theorem Ok.notOb (h : Ok B F ν M w) {n : Nat} (hn : w.heap.size ≤ n) : ∀ id' o' k', M id' = some o' → ν id' = some k' → k'.vt = false → k'.b ≠ n := fun id' o' k' a b v e => by
  have := h.obLt a b v
  omega

theorem Ok.noF (h : Ok B F ν M w) {n : Nat} (hn : w.heap.size ≤ n) : ∀ x, F n x = none := fun x => by
  cases hf : F n x with
  | none => rfl
  | some v => have := h.lt hf; omega

theorem Ok.allocs (h : Ok B F ν M w) (o : Obj) : Ok B F ν M (w.alloc o) := h.on rfl rfl rfl (by simp) (fun b hb => heap_old w o hb)
theorem Ok.drewOn (h : Ok B F ν M w) : Ok B F ν M w.drew := h.on rfl rfl rfl (Nat.le_refl _) (fun _ _ => rfl)

/-- A new block whose first cells are an object's. -/
theorem Ok.made (h : Ok B F ν M w) {id : Nat} {o : Ob} {b : Nat} {cur : Array Value} {ty : TypeId} {fr : Nat × Nat} (hid : ν id = none) (hb : w.heap[b]? = some (.cells cur ty fr)) (hF : ∀ x, F b x = none)
    (hob : ∀ id' o' k', M id' = some o' → ν id' = some k' → k'.vt = false → k'.b ≠ b) (hB : B.D b ∨ B.w.heap.size ≤ b) (hfr : ∀ x, x < cur.size → ¬ (fr.1 ≤ x ∧ x < fr.2)) (hl : ∀ (i : Nat) (el : List V), o.els[i]? = some el → el.length = o.sz)
    (hs : o.els.length * o.sz ≤ cur.size) (hc : ∀ (i : Nat) (el : List V) (j : Nat) (u : V), o.els[i]? = some el → el[j]? = some u → u.cell = true ∧ ∃ v, cur[i * o.sz + j]? = some v ∧ Rel F ν v u) :
    Ok B F (setN ν id ⟨b, o.sz, cur.size, false, ty⟩) (setM M id (some o)) w ∧ Nu.le ν (setN ν id ⟨b, o.sz, cur.size, false, ty⟩) :=
  h.new hid (fun _ => hF) (fun _ => hob) (fun _ => hB) (.inl ⟨rfl, cur, ty, fr, hb, ⟨rfl, rfl⟩, hfr, rfl, hl, hs, hc⟩)

theorem setN_other {ν : Nu} {id : Nat} {k : Blk} : ∀ x, x ≠ id → setN ν id k x = ν x := fun x hx => by simp [setN, hx]
end

section
variable {P : Program} {B : Gd} {σ : Nat → V} {M : Hp} {id : Nat} {K : V → Hp → Prop} {dst : Option Nat} {ty : Nat} {pos : String} {after : Array Edge} {guard : Option (Nat × Bool)}

theorem w_box {t : Nat} {x : Operand} {cs : List V} (hx : vcells (ev σ x) = some cs) (hK : K (.ptr id 0 0) (setM M id (some ⟨[cs], cs.length⟩))) :
    OpW P B ⟨dst, .box t x, ty, pos, after, guard⟩ σ M id K := by
  refine opw_on hK fun ac w F ν hok hid hm => ?_
  obtain ⟨vs, hv, hl, hce, hr⟩ := vcells_rel (ev_rel hm x) hx
  have ok1 := hok.allocs (.cells vs.toArray t)
  have h2 := ok1.made (id := id) (o := ⟨[cs], cs.length⟩) (b := w.heap.size) (cur := vs.toArray) (ty := t) (fr := (0, 0)) hid (heap_new w _) (hok.noF (Nat.le_refl _)) (hok.notOb (Nat.le_refl _)) (.inr hok.size)
    (fun x _ => by simp) (fun i el hi => by cases i <;> simp at hi; subst hi; rfl) (by simp [hl]) (fun i el j u hi hj => by
      cases i <;> simp at hi
      subst hi
      obtain ⟨y, hy⟩ := get_of_length hl hj
      exact ⟨hce _ _ hj, y, by simpa using hy, hr _ _ _ hy hj⟩)
  refine ⟨.value (.pointer (some ⟨w.heap.size, 0, none⟩)), .pointer (some ⟨w.heap.size, 0, none⟩), _, F, _, by simp [execOp, Instr.box, newVar, newRow, hv], .inl rfl, h2.1, Fz.le_refl _, h2.2, setN_other, ?_⟩
  have := Rel.ptr (F := F) (ν := setN ν id ⟨w.heap.size, cs.length, vs.toArray.size, false, t⟩) id 0 0 ⟨w.heap.size, cs.length, vs.toArray.size, false, t⟩ (by simp [setN])
  simpa using this

def zcells (P : Program) (t : Nat) : Option (List V) :=
  match (P.info? t).bind (·.zero) with
  | some (.agg cs) => if cs.toList.all (·.oneCell') then some (cs.toList.map .val) else none
  | some v => if v.oneCell' then some [.val v] else none
  | none => none

theorem zcells_run {P : Program} {t : Nat} {cs : List V} (h : zcells P t = some cs) (w : World) : ∃ z, (zeroValue t).run P w = .ok z w ∧ ∃ vs : List Value, z.cells = vs.toArray ∧ cs = vs.map .val ∧ ∀ v ∈ vs, v.oneCell' = true := by
  unfold zcells at h
  cases hi : P.info? t with
  | none => simp [hi] at h
  | some i =>
    simp only [hi, Option.bind_some] at h
    cases hz : i.zero with
    | none => simp [hz] at h
    | some z =>
      refine ⟨z, by simp [zeroValue, typeInfo, hi, hz], ?_⟩
      rw [hz] at h
      cases z
      case agg c =>
        by_cases ha : c.toList.all (·.oneCell') = true
        · simp only [ha, if_true, Option.some.injEq] at h
          exact ⟨c.toList, by simp [Value.cells], h.symm, List.all_eq_true.1 ha⟩
        · simp only [ha, if_false, Bool.false_eq_true] at h
          cases h
      case tuple c => simp [Value.oneCell'] at h
      all_goals
        simp only [Value.oneCell', if_true, Option.some.injEq] at h
        exact ⟨[_], rfl, h.symm, fun v hv => by simp at hv; subst hv; rfl⟩

theorem w_alloc {t : Nat} {cs : List V} (hz : zcells P t = some cs) (hK : K (.ptr id 0 0) (setM M id (some ⟨[cs], cs.length⟩))) :
    OpW P B ⟨dst, .alloc t, ty, pos, after, guard⟩ σ M id K := by
  refine opw_on hK fun ac w F ν hok hid hm => ?_
  obtain ⟨z, hz1, vs, hv, rfl, h1⟩ := zcells_run hz w
  have ok1 := hok.allocs (.cells vs.toArray t)
  have h2 := ok1.made (id := id) (o := ⟨[vs.map .val], (vs.map V.val).length⟩) (b := w.heap.size) (cur := vs.toArray) (ty := t) (fr := (0, 0)) hid (heap_new w _) (hok.noF (Nat.le_refl _)) (hok.notOb (Nat.le_refl _)) (.inr hok.size)
    (fun x _ => by simp) (fun i el hi => by cases i <;> simp at hi; subst hi; rfl) (by simp) (fun i el j u hi hj => by
      cases i <;> simp at hi
      subst hi
      rw [List.getElem?_map] at hj
      cases hy : vs[j]? with
      | none => simp [hy] at hj
      | some y =>
        simp [hy] at hj
        subst hj
        exact ⟨rfl, y, by simpa using hy, .val y (h1 y (List.mem_of_getElem? hy))⟩)
  refine ⟨.value (.pointer (some ⟨w.heap.size, 0, none⟩)), .pointer (some ⟨w.heap.size, 0, none⟩), _, F, _, by simp [execOp, Instr.alloc, newVar, newRow, hv, hz1], .inl rfl, h2.1, Fz.le_refl _, h2.2, setN_other, ?_⟩
  have := Rel.ptr (F := F) (ν := setN ν id ⟨w.heap.size, (vs.map V.val).length, vs.toArray.size, false, t⟩) id 0 0 ⟨w.heap.size, (vs.map V.val).length, vs.toArray.size, false, t⟩ (by simp [setN])
  simpa using this

/-- An element with some of its cells turned. -/
def splice (el : List V) (off : Nat) (cs : List V) : List V := el.take off ++ cs ++ el.drop (off + cs.length)

theorem splice_len {el : List V} {off : Nat} {cs : List V} (h : off + cs.length ≤ el.length) : (splice el off cs).length = el.length := by
  simp [splice]
  omega

theorem splice_at {el cs : List V} {off j : Nat} (h : off + cs.length ≤ el.length) : (splice el off cs)[j]? = if off ≤ j ∧ j < off + cs.length then cs[j - off]? else el[j]? := by
  unfold splice
  have hlt : (el.take off).length = off := by rw [List.length_take]; omega
  by_cases h1 : j < off
  · rw [List.append_assoc, List.getElem?_append_left (by omega), List.getElem?_take, if_pos h1, if_neg (by omega)]
  · by_cases h2 : j < off + cs.length
    · rw [List.append_assoc, List.getElem?_append_right (by omega), hlt, List.getElem?_append_left (by omega), if_pos (by omega)]
    · rw [List.getElem?_append_right (by rw [List.length_append, hlt]; omega), List.length_append, hlt, List.getElem?_drop, if_neg (by omega)]
      congr 1
      omega

theorem w_store {t : Nat} {p x : Operand} {i j off : Nat} {o : Ob} {el cs : List V} (hs : szOf P t = some cs.length) (hp : ev σ p = .ptr i j off) (hx : vcells (ev σ x) = some cs) (hM : M i = some o) (he : o.els[j]? = some el) (hfit : off + cs.length ≤ el.length)
    (hK : K .any (setM M i (some ⟨o.els.set j (splice el off cs), o.sz⟩))) : OpW P B ⟨dst, .store t p x, ty, pos, after, guard⟩ σ M id K := by
  refine opw_on hK fun ac w F ν hok hid hm => ?_
  obtain ⟨vs, hv, hl, hce, hr⟩ := vcells_rel (ev_rel hm x) hx
  have h1 := ev_rel hm p
  rw [hp] at h1
  generalize hpv : ac.eval p = pv at h1
  cases h1 with
  | ptr _ _ _ k hk =>
    obtain ⟨hvt, cur, ty', fr, g1, ⟨g2, gty⟩, g3, g4, g5, g6, g7⟩ := (hok.at hM hk).1.real he
    have hlen := g5 _ _ he
    have hjlt := (List.getElem?_eq_some_iff.1 he).1
    have hmul : (j + 1) * o.sz ≤ o.els.length * o.sz := Nat.mul_le_mul_right _ hjlt
    have hfit' : j * k.sz + off + vs.length ≤ cur.size := by
      rw [g4, hl, g2]
      rw [Nat.add_mul] at hmul
      omega
    obtain ⟨w', hrun, hb', hk', hsz', ho, ht, hou⟩ := run_cells_at (P := P) g1 hfit' (by rw [g2]; exact g3) (fun v hv' => by
      obtain ⟨q, hq⟩ := List.mem_iff_getElem?.1 hv'
      obtain ⟨x', hx'⟩ := get_of_length hl.symm hq
      exact (hr _ _ _ hq hx').oneCell (hce _ _ hx'))
    have hcells : ((ac.eval x).cells).size = cs.length := by rw [hv]; simp [hl]
    refine ⟨.skip, undef, w', F, ν, ?_, .inr ⟨rfl, rfl⟩, ?_, Fz.le_refl _, Nu.le_refl _, fun _ _ => rfl, .any _⟩
    · simp only [execOp, Instr.storeAt, hpv, Instr.sureAddr, storeVar]
      rw [hv] at hcells ⊢
      simp only [Sem.run_bind, Sem.run_pure, Result.andThen, szOf_run hs, hcells, ne_eq, not_true_eq_false, if_false, hrun]
    · refine hok.world ho ht hou (by omega) hM hk hvt (fun b _ hne => hk' b hne) (.inl ⟨hvt, _, ty', fr, hb', ⟨?_, gty⟩, g3, g4, fun i' el' hi' => ?_, by simpa using g6, fun i' el' j' u hi' hj' => ?_⟩)
      · simp only [List.size_toArray, List.length_append, List.length_take, List.length_drop, Array.length_toList]
        omega
      · rw [List.getElem?_set] at hi'
        by_cases hij : j = i'
        · rw [if_pos hij, if_pos hjlt] at hi'
          simp at hi'
          subst hi'
          rw [splice_len hfit]
          exact hlen
        · rw [if_neg hij] at hi'
          exact g5 _ _ hi'
      · have hA : (j * k.sz + off) = j * o.sz + off := by rw [g4]
        have hcell : ∀ q, ((cur.toList.take (j * k.sz + off) ++ vs ++ cur.toList.drop (j * k.sz + off + vs.length)).toArray)[q]? = if j * o.sz + off ≤ q ∧ q < j * o.sz + off + vs.length then vs[q - (j * o.sz + off)]? else cur[q]? := by
          intro q
          rw [hA] at hfit' ⊢
          have hlt : (cur.toList.take (j * o.sz + off)).length = j * o.sz + off := by rw [List.length_take, Array.length_toList]; omega
          rw [List.getElem?_toArray]
          by_cases h1 : q < j * o.sz + off
          · rw [List.append_assoc, List.getElem?_append_left (by omega), List.getElem?_take, if_pos h1, if_neg (by omega)]
            simp
          · by_cases h2 : q < j * o.sz + off + vs.length
            · rw [List.append_assoc, List.getElem?_append_right (by omega), hlt, List.getElem?_append_left (by omega), if_pos (by omega)]
            · rw [List.getElem?_append_right (by rw [List.length_append, hlt]; omega), List.length_append, hlt, List.getElem?_drop, if_neg (by omega)]
              simp only [Array.getElem?_toList]
              congr 1
              omega
        dsimp only at hi' ⊢
        rw [hcell]
        rw [List.getElem?_set] at hi'
        by_cases hij : j = i'
        · subst hij
          simp only [if_true, hjlt] at hi'
          simp at hi'
          subst hi'
          rw [splice_at hfit] at hj'
          by_cases hin : off ≤ j' ∧ j' < off + cs.length
          · rw [if_pos hin] at hj'
            rw [if_pos (by omega)]
            obtain ⟨y, hy⟩ := get_of_length hl hj'
            have e3 : j * o.sz + j' - (j * o.sz + off) = j' - off := by omega
            rw [e3]
            exact ⟨hce _ _ hj', y, hy, hr _ _ _ hy hj'⟩
          · rw [if_neg hin] at hj'
            rw [if_neg (by omega)]
            exact g7 _ _ _ _ he hj'
        · rw [if_neg hij] at hi'
          have hl' := g5 _ _ hi'
          have hj'lt := (List.getElem?_eq_some_iff.1 hj').1
          rw [if_neg (fun hc => ?_)]
          · exact g7 _ _ _ _ hi' hj'
          · rcases Nat.lt_or_gt_of_ne hij with h3 | h3
            · have : (j + 1) * o.sz ≤ i' * o.sz := Nat.mul_le_mul_right _ h3
              rw [Nat.add_mul] at this
              omega
            · have : (i' + 1) * o.sz ≤ j * o.sz := Nat.mul_le_mul_right _ h3
              rw [Nat.add_mul] at this
              omega
end
end Go.Ka
