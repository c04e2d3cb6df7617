/- The tables that a row lists, as cells and blocks that stand. -/
import Derived.Test.YtnbmjbpekblhbaaGreatDoorKaZ
import Derived.Lib.LaidU8
import Derived.LaidLaws
set_option linter.all false
namespace Go.Ka
open Go.RowKit

theorem tab_of_reads {P : Program} {W : World} {name : String} {k : IntKind} {zs : List Int} {g : Nat} {t e : TypeId} {n : Nat}
    (hg : P.globalNamed name = some g) (hty : (P.globals[g]?).map (·.type) = some t) (ht : P.underlying t = some (.array n e)) (he : P.underlying e = some (.int k)) (hce : P.cellsOf e = 1) (hct : P.cellsOf t = n)
    (h : Lib.VarReads P W name (Lib.tabData k zs)) : Lib.TabIs P W name k zs := by
  obtain ⟨g', t', cs, fuel, p, hg', ht', hvar, hd⟩ := h
  obtain rfl := Option.some.inj (hg.symm.trans hg')
  obtain rfl := Option.some.inj (hty.symm.trans ht')
  unfold Lib.TabIs
  rw [hvar, ← Lib.cells_of_tab ht he hce hct hd]
theorem iface_of_reads {P : Program} {W : World} {name nm : String} {d : DataW Unit} {g : Nat} {t : TypeId} {ms : Array (String × TypeId)}
    (hg : P.globalNamed name = some g) (hty : (P.globals[g]?).map (·.type) = some t) (hi : P.underlying t = some (.interface ms)) (h : Lib.VarReads P W name (.iface nm d)) : ∃ u v, W.cell? ⟨g, 0, none⟩ = some (.iface u v) := by
  obtain ⟨g', t', cs, fuel, p, hg', ht', hvar, hd⟩ := h
  obtain rfl := Option.some.inj (hg.symm.trans hg')
  obtain rfl := Option.some.inj (hty.symm.trans ht')
  obtain ⟨f1, u, v, hcs, _⟩ := iface_of_trod hi hd
  refine ⟨u, v, ?_⟩
  have := World.var?_cell hg hvar 0
  rw [this]
  have e : cs[0]? = cs.toList[0]? := by simp
  rw [e, hcs]
  rfl

/-- The tables of a world: these cells, these blocks. -/
@[reducible] def tabOf (W : World) (cs bs : List Nat) : Tab where
  T := fun b o => if b ∈ cs ∨ b ∈ bs then W.cell? ⟨b, o, none⟩ else none
  H := fun b => if b ∈ bs then (match W.heap[b]? with
    | some (.cells c t f) => if 0 < c.size then some (.cells c t f) else none
    | _ => none) else none
  hd := fun b o h => by
    split at h
    · rename_i hb
      split at h
      · rename_i c t f hh
        split at h
        · rename_i hc
          refine ⟨0, c[0], ?_⟩
          rw [if_pos (.inr hb)]
          simp [World.cell?, hh, hc]
        · cases h
      · cases h
    · cases h
theorem tabOf_cell {W w : World} {cs bs : List Nat} {b : Nat} (hb : b ∈ cs) (h : @TabOn (tabOf W cs bs) w) {o : Nat} {v : Value} (hv : W.cell? ⟨b, o, none⟩ = some v) : w.cell? ⟨b, o, none⟩ = some v :=
  h.1 b o v (by show (if b ∈ cs ∨ b ∈ bs then _ else _) = _; rw [if_pos (.inl hb)]; exact hv)
theorem tabOf_var {W w : World} {P : Program} {cs bs : List Nat} {name : String} {k : IntKind} {zs : List Int} {b : Nat} (hg : P.globalNamed name = some b) (hb : b ∈ bs) (hz : zs ≠ []) (h : @TabOn (tabOf W cs bs) w) (hv : Lib.TabIs P W name k zs) : Lib.TabIs P w name k zs := by
  unfold Lib.TabIs at hv ⊢
  simp only [World.var?, hg, Option.bind_some] at hv ⊢
  split at hv
  · rename_i c t f hh
    have hc : 0 < c.size := by
      cases hv
      cases zs with
      | nil => exact absurd rfl hz
      | cons z r => simp
    rw [h.2 b (.cells c t f) (by show (if b ∈ bs then _ else _) = _; rw [if_pos hb, hh]; simp [hc])]
    exact hv
  · cases hv
/-- Where a call from outside begins. -/
theorem ok_start (W : World) (cs bs : List Nat) : @Ok (tabOf W cs bs) ⟨W, (tabOf W cs bs).T, own0 ν0 M0⟩ (tabOf W cs bs).T ν0 M0 W := by
  letI := tabOf W cs bs
  refine ⟨fun b o v h => ?_, fun _ _ h => by simp [M0] at h, fun _ _ _ _ _ _ h => by simp [M0] at h, ⟨rfl, rfl, rfl, Nat.le_refl _, fun _ _ _ => rfl⟩, fun _ _ _ h => by simp [M0] at h, ⟨Fz.le_refl _, fun b o h => ?_⟩, fun _ _ _ _ => rfl⟩
  · have h : (if b ∈ cs ∨ b ∈ bs then W.cell? ⟨b, o, none⟩ else none) = some v := h
    split at h
    · exact h
    · cases h
  · have h : (if b ∈ bs then (match W.heap[b]? with
      | some (.cells c t f) => if 0 < c.size then some (.cells c t f) else none
      | _ => none) else none) = some o := h
    split at h
    · split at h
      · rename_i c t f hh
        split at h
        · show W.heap[b]? = _
          rw [hh]; exact h
        · cases h
      · cases h
    · cases h
/-- What a law's contract says of a call from outside, the arguments plain values. -/
theorem pu_calls {P : Program} {f : Nat} {W : World} {cs bs : List Nat} {vs : List Value} {v : Value} (h : @Pu (tabOf W cs bs) P f (vs.map .val) (.val v)) (hv : ∀ x ∈ vs, x.oneCell' = true) :
    Calls P f vs.toArray W fun e w' => e = .returned v ∧ Below W.heap.size W w' :=
  letI := tabOf W cs bs
  (h.run W (tabOf W cs bs).T ν0 vs (ok_start W cs bs) (fun _ _ => rfl) (by simp) (fun j x u hx hu => by
    simp only [List.getElem?_map] at hu
    rw [hx] at hu
    simp at hu
    subst hu
    exact .val x (hv x (List.mem_of_getElem? hx)))).mono fun e w' hx => by
  obtain ⟨x, F', ν', rfl, ok', _, _, hr⟩ := hx
  rw [rel_val hr]
  exact ⟨rfl, ok'.below.os, ok'.below.tape, ok'.below.output, ok'.below.size, fun b hb => ok'.below.block b hb (fun ⟨_, _, _, h, _⟩ => by cases h)⟩
end Go.Ka
