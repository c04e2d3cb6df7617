/- Operations, the seventh part: slices that are written out; bytes as a text. -/
import Derived.Test.YtnbmjbpekblhbaaGreatDoorKaOps6
set_option linter.all false
namespace Go.Ka
open Go.RowKit
variable [Tab]

/-- Elements, each with its index, one behind the other. -/
def vparts (sz : Nat) (k : Nat) : List (Nat × V) → Option (List (List V))
  | [] => some []
  | (i, u) :: r => match vcells u with
    | some us => if i = k ∧ us.length = sz then (vparts sz (k + 1) r).map (us :: ·) else none
    | none => none

theorem vparts_len {sz : Nat} : ∀ (ps : List (Nat × V)) (k : Nat) (els : List (List V)), vparts sz k ps = some els → els.length = ps.length ∧ ∀ el ∈ els, el.length = sz := by
  intro ps
  induction ps with
  | nil => intro k els h; simp only [vparts, Option.some.injEq] at h; subst h; simp
  | cons p r ih =>
    intro k els h
    obtain ⟨i, u⟩ := p
    unfold vparts at h
    split at h
    · rename_i us hu
      split at h
      · rename_i hc
        cases hr : vparts sz (k + 1) r with
        | none => simp [hr] at h
        | some es =>
          simp [hr] at h
          subst h
          obtain ⟨h1, h2⟩ := ih _ _ hr
          exact ⟨by simp [h1], fun el hel => by
            rcases List.mem_cons.1 hel with rfl | h
            · exact hc.2
            · exact h2 el h⟩
      · cases h
    · cases h

/-- The zero value laid so many times, the parts over it: the parts. -/
theorem vparts_fill {sz : Nat} : ∀ (ps : List (Nat × V)) (k : Nat) (els : List (List V)) (done zs : List V), vparts sz k ps = some els → done.length = k * sz → zs.length = ps.length * sz →
    vfill (fun i => some (i * sz, sz)) ps (done ++ zs) = some (done ++ els.flatten) := by
  intro ps
  induction ps with
  | nil =>
    intro k els done zs h hd hz
    simp only [vparts, Option.some.injEq] at h
    subst h
    have : zs = [] := List.eq_nil_of_length_eq_zero (by simpa using hz)
    subst this
    simp [vfill]
  | cons p r ih =>
    intro k els done zs h hd hz
    obtain ⟨i, u⟩ := p
    unfold vparts at h
    split at h
    · rename_i us hu
      split at h
      · rename_i hc
        obtain ⟨rfl, hus⟩ := hc
        cases hr : vparts sz (i + 1) r with
        | none => simp [hr] at h
        | some es =>
          simp [hr] at h
          subst h
          simp only [List.length_cons, Nat.add_mul, Nat.one_mul] at hz
          simp only [vfill, hu]
          rw [if_pos ⟨hus, by rw [List.length_append, hd]; omega⟩]
          have e1 : splice (done ++ zs) (i * sz) us = (done ++ us) ++ zs.drop sz := by
            unfold splice
            rw [List.take_append_of_le_length (by omega), List.take_of_length_le (by omega), hus, List.drop_append, List.drop_eq_nil_of_le (by omega), hd]
            simp
          rw [e1, ih (i + 1) es (done ++ us) (zs.drop sz) hr (by rw [List.length_append, hd, hus, Nat.add_mul]; omega) (by rw [List.length_drop]; omega)]
          simp
      · cases h
    · cases h

section
variable {P : Program} {B : Gd} {σ : Nat → V} {M : Hp} {id : Nat} {K : V → Hp → Prop} {dst : Option Nat} {ty : Nat} {pos : String} {after : Array Edge} {guard : Option (Nat × Bool)}

theorem rep_zero {zs : List Value} {n sz : Nat} (hl : zs.length = sz) (h0 : n * sz ≠ 0) : ∃ ws : List Value, ((Array.range (n * sz)).map fun i => zs.toArray[i % zs.toArray.size]!) = ws.toArray ∧ ws.length = n * sz ∧ ∀ v ∈ ws, v ∈ zs := by
  refine ⟨(List.range (n * sz)).map fun i => zs.toArray[i % zs.toArray.size]!, by simp [← Array.toList_inj], by simp, fun v hv => ?_⟩
  obtain ⟨i, _, rfl⟩ := List.mem_map.1 hv
  have hpos : 0 < sz := by
    rcases Nat.eq_zero_or_pos sz with h | h
    · rw [h] at h0; simp at h0
    · exact h
  have hlt : i % zs.toArray.size < zs.toArray.size := Nat.mod_lt _ (by simp [hl]; exact hpos)
  rw [getElem!_pos zs.toArray _ hlt]
  simp

/-- A slice literal that nobody writes. -/
theorem w_buildSlice {t e sz n : Nat} {parts : Array (Nat × Operand)} {zs : List V} {els : List (List V)} (ht : elOf P t = some e) (hs : szOf P e = some sz) (hz : zcells P e = some zs) (hzl : zs.length = sz) (hn : parts.toList.length = n)
    (hv : vparts sz 0 (evs σ parts.toList) = some els) (hbig : n * sz ≤ 16777216) (hn2 : n ≤ 16777216) (hK : K (.arr els) M) : OpW P B ⟨dst, .buildSlice t n parts, ty, pos, after, guard⟩ σ M id K := by
  refine opw_on hK fun ac w F ν hok hid hm => ?_
  obtain ⟨hel, hels⟩ := vparts_len _ _ _ hv
  have heln : els.length = n := by rw [hel, ← hn]; simp [evs]
  obtain ⟨i, z, hi, hz1, vs, hvz, rfl, h1⟩ := zcells_info hz
  rw [List.length_map] at hzl
  obtain ⟨hl, hq⟩ := parts_rel hm parts.toList
  -- the cells
  have cells : ∃ ws : List Value, RL F ν ws els.flatten ∧ (Instr.buildSlice t n (parts.map fun p => (p.1, ac.eval p.2))).run P w = .ok (.slice (some ⟨w.heap.size, 0, none⟩) n n) (w.alloc (.cells ws.toArray e)) := by
    by_cases h0 : n * sz = 0
    · obtain ⟨ws, hw, hr⟩ := vfill_run (pl := fun i => some (i * sz, sz)) _ _ [] [] _ hl hq ⟨rfl, fun j x hx => by simp at hx, fun j y x hy => by simp at hy⟩ (by
        have := vparts_fill (evs σ parts.toList) 0 els [] [] hv (by simp) (by rw [← hel, heln]; simpa using h0.symm)
        simpa using this)
      refine ⟨ws, by simpa using hr, ?_⟩
      have hw' : Instr.fill (fun i => some (i * sz, sz)) #[] (List.map (fun p => (p.fst, ac.eval p.snd)) parts.toList) = some ws.toArray := by simpa using hw
      simp only [Instr.buildSlice, Sem.run_bind, run_underlying (elOf_und ht), Result.andThen, szOf_run hs, h0]
      simp [Array.range_zero', hw', newRow]
    · obtain ⟨zw, hzw, hzwl, hzm⟩ := rep_zero (zs := vs) (n := n) hzl h0
      obtain ⟨ws, hw, hr⟩ := vfill_run (pl := fun i => some (i * sz, sz)) _ _ (zw.map .val) zw _ hl hq (RL.vals (F := F) (ν := ν) fun v hv => h1 v (hzm v hv)) (by
        have := vparts_fill (evs σ parts.toList) 0 els [] (zw.map .val) hv (by simp) (by rw [List.length_map, hzwl, ← hel, heln])
        simpa using this)
      refine ⟨ws, by simpa using hr, ?_⟩
      have hw' : Instr.fill (fun i => some (i * sz, sz)) zw.toArray (List.map (fun p => (p.fst, ac.eval p.snd)) parts.toList) = some ws.toArray := by simpa using hw
      have hbig' : ¬ (n * sz > 2 ^ 24) := by omega
      simp only [Instr.buildSlice, Sem.run_bind, run_underlying (elOf_und ht), Result.andThen, szOf_run hs, h0, hbig', if_false, zeroValue, typeInfo]
      simp only [run_program, hi, Sem.run_pure, hz1, hvz, hzw]
      simp [hw', newRow]
  obtain ⟨ws, hr, hrun⟩ := cells
  have ok1 := hok.allocs (.cells ws.toArray e)
  have ok2 := ok1.imm (b := w.heap.size) (f := fun o => ws[o]?) (hok.noF (Nat.le_refl _)) (hok.notOb (Nat.le_refl _)) (.inr hok.size) (fun o v ho => by rw [cell_at (heap_new w _)]; simpa using ho)
  have hle := addF_le (f := fun o => ws[o]?) (hok.noF (Nat.le_refl _) : ∀ x, F w.heap.size x = none)
  refine ⟨.value (.slice (some ⟨w.heap.size, 0, none⟩) n n), _, _, _, ν, ?_, .inl rfl, ok2, hle, Nu.le_refl _, fun _ _ => rfl, ?_⟩
  · simp only [execOp]
    simp [hrun]
  · have hfl := flat_len els sz hels
    have hat : ∀ (i : Nat) (el : List V) (j : Nat) (u : V), els[i]? = some el → el[j]? = some u → ∃ y, ws[i * sz + j]? = some y ∧ u.cell = true ∧ Rel F ν y u := fun i el j u hi hj => by
      have hu := flat_at els sz (fun i el h => hels el (List.mem_of_getElem? h)) i j el u hi hj
      obtain ⟨y, hy⟩ := get_of_length hr.1 hu
      exact ⟨y, hy, hr.2.1 _ _ hu, hr.2.2 _ _ _ hy hu⟩
    refine .arr _ n n sz els (fun i j => (ws[i * sz + j]?).getD undef) heln (Nat.le_refl _) ?_ (fun i el hi => hels el (List.mem_of_getElem? hi)) (fun i el j u hi hj => (hat i el j u hi hj).choose_spec.2.1) (fun _ => ⟨w.heap.size, 0, rfl, fun i el j u hi hj => ?_⟩) (fun i el j u hi hj => ?_)
    · unfold maxLen; omega
    · obtain ⟨y, hy, _⟩ := hat i el j u hi hj
      simp [addF, hy]
    · obtain ⟨y, hy, _, h⟩ := hat i el j u hi hj
      rw [hy]
      exact h.mono hle (Nu.le_refl _)

/-- The bytes of elements. -/
def vbytes : List (List V) → Option (List UInt8)
  | [] => some []
  | [.val (.int .u8 n)] :: r => (vbytes r).map (UInt8.ofNat n.toNat :: ·)
  | _ => none

theorem vbytes_map (l : List UInt8) : vbytes (l.map byteEl) = some l := by
  induction l with
  | nil => rfl
  | cons b r ih => simp [vbytes, byteEl, ih]

theorem vbytes_nums {F : Fz} {ν : Nu} : ∀ (els : List (List V)) (l : List UInt8) (news : List Value), vbytes els = some l → RL F ν news els.flatten → ∃ ns : List Int, news = ns.map (Value.int .u8) ∧ ns.length = els.length ∧ l = ns.map fun n => UInt8.ofNat n.toNat := by
  intro els
  induction els with
  | nil =>
    intro l news h hr
    simp only [vbytes, Option.some.injEq] at h
    subst h
    have : news = [] := List.eq_nil_of_length_eq_zero (by simpa using hr.1)
    exact ⟨[], by simp [this], rfl, rfl⟩
  | cons e r ih =>
    intro l news h hr
    unfold vbytes at h
    split at h
    · rename_i he; cases he
    · rename_i n r' he
      injection he with he1 he2
      subst he1; subst he2
      cases hb : vbytes r with
      | none => simp [hb] at h
      | some l' =>
        simp [hb] at h
        subst h
        cases news with
        | nil => have := hr.1; simp at this
        | cons v vs =>
          have hv := hr.2.2 0 v _ rfl rfl
          have e1 := rel_val hv
          subst e1
          obtain ⟨ns, h1, h2, h3⟩ := ih l' vs hb ⟨by have := hr.1; simpa using this, fun j x hj => hr.2.1 (j + 1) x (by simpa using hj), fun j y x hy hx => hr.2.2 (j + 1) y x (by simpa using hy) (by simpa using hx)⟩
          exact ⟨n :: ns, by simp [h1], by simp [h2], by simp [h3]⟩
    · cases h

theorem w_toStr {src d e : Nat} {x : Operand} {els : List (List V)} {l : List UInt8} (hs : elOf P src = some e) (he : wordOf P e = some .u8) (hd : isStr P d = true) (hx : vels M 1 (ev σ x) = some els) (hl : vbytes els = some l) (hK : K (.val (str l)) M) :
    OpW P B ⟨dst, .convert src d x, ty, pos, after, guard⟩ σ M id K := by
  refine opw_of hK fun ac w F ν hok hm => ?_
  obtain ⟨_, A, c, news, hv, _, _, hnl, hnr, hsrc⟩ := vels_src hok (ev_rel hm x) hx
  obtain ⟨ns, hns, hnsl, rfl⟩ := vbytes_nums _ _ _ hl hnr
  refine ⟨str (ns.map fun n => UInt8.ofNat n.toNat), ?_, .val _ rfl⟩
  simp only [execOp, hv]
  have main : (convert src d (.slice A els.length c)).run P w = .ok (str (ns.map fun n => UInt8.ofNat n.toNat)) w := by
    rcases hsrc with ⟨b, o, rfl, hc⟩ | h0
    · have := run_convert_bytes_arg (P := P) w src e (elOf_und hs) (wordOf_und he) b o els.length c ns hnsl (fun i hi => by
        have hlt : i < ns.length := by omega
        have hq : news[i]? = some (.int .u8 ns[i]) := by rw [hns, List.getElem?_map, List.getElem?_eq_getElem hlt]; rfl
        rw [hc i _ hq, List.getD_eq_getElem?_getD, List.getElem?_eq_getElem hlt]
        rfl) d (isStr_und hd)
      rw [this]
      rfl
    · have hns0 : ns = [] := List.eq_nil_of_length_eq_zero (by rw [hnsl, h0]; rfl)
      subst hns0
      subst h0
      cases A with
      | none => exact run_convert_bytes_nil (P := P) w src e (elOf_und hs) (wordOf_und he) 0 c d (isStr_und hd)
      | some a => 
        rw [run_convert_bytes_string w src d e (some a) _ c (elOf_und hs) (wordOf_und he) (isStr_und hd)]
        simp [Conv.bytesToString, loadCells, loadCellsFrom, str]
        rfl
  simp [main]
end
end Go.Ka
