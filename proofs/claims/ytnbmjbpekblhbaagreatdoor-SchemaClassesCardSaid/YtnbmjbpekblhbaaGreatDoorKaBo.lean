/- Written lists as objects of the walk's own; appending to what was written out just now. -/
import Derived.Test.YtnbmjbpekblhbaaGreatDoorKaZ
set_option linter.all false
namespace Go.Ka
open Enc (enc)
open Go.RowKit
variable [Tab]
section
variable {P : Program} {B : Gd} {σ : Nat → V} {M : Hp} {id : Nat} {K : V → Hp → Prop} {dst : Option Nat} {ty : Nat} {pos : String} {after : Array Edge} {guard : Option (Nat × Bool)}
theorem w_buildSliceO {t e sz n : Nat} {parts : Array (Nat × Operand)} {zs : List V} {els els' : List (List V)} (ht : elOf P t = some e) (hs : szOf P e = some sz) (hz : zcells P e = some zs) (hzl : zs.length = sz) (hn : parts.toList.length = n)
    (hv : vparts sz 0 (evs σ parts.toList) = some els) (hbig : n * sz ≤ 16777216) (hn2 : n ≤ 16777216) (hw : Wkss els els') (hce : ∀ el ∈ els', ∀ u ∈ el, u.cell = true) (hK : K (.own id 0 n) (setM M id (some ⟨els', sz⟩))) : OpW P B ⟨dst, .buildSlice t n parts, ty, pos, after, guard⟩ σ M id K := by
  refine opw_on hK fun ac w F ν hok hid hm => ?_
  obtain ⟨hel, hels⟩ := vparts_len _ _ _ hv
  have heln : els.length = n := by rw [hel, ← hn]; simp [evs]
  obtain ⟨i, z, hi, hz1, vs, hvz, rfl, h1⟩ := zcells_info hz
  rw [List.length_map] at hzl
  obtain ⟨hl, hq⟩ := parts_rel hm parts.toList
  -- the cells
  have cells : ∃ ws : List Value, RL F ν ws els.flatten ∧ (Instr.buildSlice t n (parts.map fun p => (p.1, ac.eval p.2))).run P w = .ok (.slice (some ⟨w.heap.size, 0, none⟩) n n) (w.alloc (.cells ws.toArray e)) := by
    by_cases h0 : n * sz = 0
    · obtain ⟨ws, hw, hr⟩ := vfill_run (pl := fun i => some (i * sz, sz)) _ _ [] [] _ hl hq ⟨rfl, fun j x hx => by simp at hx, fun j y x hy => by simp at hy⟩ (by
        have := vparts_fill (evs σ parts.toList) 0 els [] [] hv (by simp) (by rw [← hel, heln]; simpa using h0.symm)
        simpa using this)
      refine ⟨ws, by simpa using hr, ?_⟩
      have hw' : Instr.fill (fun i => some (i * sz, sz)) #[] (List.map (fun p => (p.fst, ac.eval p.snd)) parts.toList) = some ws.toArray := by simpa using hw
      simp only [Instr.buildSlice, Sem.run_bind, run_underlying (elOf_und ht), Result.andThen, szOf_run hs, h0]
      simp [Array.range_zero', hw', newRow]
    · obtain ⟨zw, hzw, hzwl, hzm⟩ := rep_zero (zs := vs) (n := n) hzl h0
      obtain ⟨ws, hw, hr⟩ := vfill_run (pl := fun i => some (i * sz, sz)) _ _ (zw.map .val) zw _ hl hq (RL.vals (F := F) (ν := ν) fun v hv => h1 v (hzm v hv)) (by
        have := vparts_fill (evs σ parts.toList) 0 els [] (zw.map .val) hv (by simp) (by rw [List.length_map, hzwl, ← hel, heln])
        simpa using this)
      refine ⟨ws, by simpa using hr, ?_⟩
      have hw' : Instr.fill (fun i => some (i * sz, sz)) zw.toArray (List.map (fun p => (p.fst, ac.eval p.snd)) parts.toList) = some ws.toArray := by simpa using hw
      have hbig' : ¬ (n * sz > 2 ^ 24) := by omega
      simp only [Instr.buildSlice, Sem.run_bind, run_underlying (elOf_und ht), Result.andThen, szOf_run hs, h0, hbig', if_false, zeroValue, typeInfo]
      simp only [run_program, hi, Sem.run_pure, hz1, hvz, hzw]
      simp [hw', newRow]
  obtain ⟨ws, hr, hrun⟩ := cells
  have ok1 := hok.allocs (.cells ws.toArray e)
  have hel := hr.elements (els := els) (sz := sz) hels (cur := ws.toArray) (rest := []) (by simp)
  have h2 := ok1.made (id := id) (o := ⟨els', sz⟩) hid (heap_new w _) (hok.noF (Nat.le_refl _)) (hok.notOb (Nat.le_refl _)) (.inr hok.size) (fun x _ => by simp) (fun i el hi => by
      obtain ⟨el0, h0, hq⟩ := hw.at i el hi
      rw [← hq.len]
      exact hels el0 (List.mem_of_getElem? h0)) (by show els'.length * sz ≤ _; rw [← hw.len]; exact hel.1) (fun i el j u hi hj => by
      obtain ⟨el0, h0, hq⟩ := hw.at i el hi
      obtain ⟨u0, h1, hq⟩ := hq.at j u hj
      obtain ⟨_, v, hv, hv2⟩ := hel.2 i el0 j u0 h0 h1
      exact ⟨hce el (List.mem_of_getElem? hi) u (List.mem_of_getElem? hj), v, hv, hq _ _ _ hv2⟩)
  refine ⟨.value (.slice (some ⟨w.heap.size, 0, none⟩) n n), _, _, F, _, ?_, .inl rfl, h2.1, Fz.le_refl _, h2.2, setN_other, ?_⟩
  · simp only [execOp]
    simp [hrun]
  · refine .own id 0 n n _ ⟨w.heap.size, sz, ws.toArray.size, false, e⟩ (by simp [setN]) (Nat.le_refl _) (by unfold maxLen; omega) (fun _ => ⟨by simp, ?_⟩) (.inr ⟨_, rfl, rfl⟩)
    have := hel.1
    rw [heln] at this
    simpa using this
end
section
variable {G : Rg} {os : List Oper} {i : Nat} {σ σ' : Nat → V} {M M' : Hp} {u : V} {ds : List Yd}
variable {d : Option Nat} {ty : Nat} {pos : String} {aft : Array Edge} {g : Option (Nat × Bool)} {x y : Operand} {t : Nat}
theorem x_bsO {α : Type} [Enc α] (l : List α) {parts : Array (Nat × Operand)} {n sz b : Nat} {els : List (List V)} (E : El G.P t sz b) (hz : sz = Enc.sz α) (h : vparts sz 0 (evs σ parts.toList) = some els) (hn : (Nat.beq parts.toList.length n && Nat.ble (n * sz) 16777216 && Nat.ble n 16777216) = true) (hl : l.length = n) (hw : Wkss els (l.map enc)) (c : Ck G ⟨d, .buildSlice t n parts, ty, pos, aft, g⟩ i σ [(G.n0 + i, some (ob l))]) (r : Lx G os (i + 1) (upd σ d (.own (G.n0 + i) 0 l.length)) (setM M (G.n0 + i) (some (ob l))) ds σ' M') : Lx G (⟨d, .buildSlice t n parts, ty, pos, aft, g⟩ :: os) i σ M (⟨.own (G.n0 + i) 0 l.length, [(G.n0 + i, some (ob l))]⟩ :: ds) σ' M' := by
  subst hz
  obtain ⟨e, zs, h1, h2, h3, h4, h5, _⟩ := E
  simp only [Bool.and_eq_true, Nat.beq_eq, Nat.ble_eq] at hn
  subst hl
  exact lx_on c (fun _ _ hs => w_buildSliceO h1 h2 h4 h5 hn.1.1 (by
    have : evs (see G.ops ⟨d, .buildSlice t l.length parts, ty, pos, aft, g⟩ σ) parts.toList = evs σ parts.toList := List.map_congr_left fun p hp => by
      rw [ev_see (by simp only [Op.operands, List.mem_map]; exact ⟨p, hp, rfl⟩)]
    rw [this]
    exact h) hn.1.2 hn.2 hw (fun el hel u hu => by
      obtain ⟨a, _, rfl⟩ := List.mem_map.1 hel
      exact Enc.cell a u hu) ⟨rfl, rfl⟩) r
end
end Go.Ka
