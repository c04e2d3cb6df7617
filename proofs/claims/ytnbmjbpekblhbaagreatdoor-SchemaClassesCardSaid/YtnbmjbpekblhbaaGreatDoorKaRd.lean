/- What an argument reads as, out of memory: all that lies there stands fast. -/
import Derived.Test.YtnbmjbpekblhbaaGreatDoorKaTa
import Derived.ChangeArms
import Derived.ChangeSlices
set_option linter.all false
namespace Go.Ka
open Go.RowKit
open Enc (enc)
variable [Tab]

/-- All cells of a world. -/
def FW (W : World) : Fz := fun b o => W.cell? ⟨b, o, none⟩
def RelL (F : Fz) (cs : List Value) (us : List V) : Prop := cs.length = us.length ∧ ∀ (j : Nat) (v : Value) (u : V), cs[j]? = some v → us[j]? = some u → Rel F ν0 v u
theorem relL_one {F : Fz} {v : Value} {u : V} (h : Rel F ν0 v u) : RelL F [v] [u] := ⟨rfl, fun j v' u' hv hu => by
  cases j with
  | zero => simp at hv hu; subst hv; subst hu; exact h
  | succ j => simp at hv⟩
theorem relL_app {F : Fz} {cs ds : List Value} {us vs : List V} (h : RelL F cs us) (h' : RelL F ds vs) : RelL F (cs ++ ds) (us ++ vs) := by
  refine ⟨by simp [h.1, h'.1], fun j v u hv hu => ?_⟩
  by_cases hj : j < cs.length
  · rw [List.getElem?_append_left hj] at hv
    rw [List.getElem?_append_left (by rw [← h.1]; exact hj)] at hu
    exact h.2 j v u hv hu
  · rw [List.getElem?_append_right (by omega)] at hv
    rw [List.getElem?_append_right (by rw [← h.1]; omega), ← h.1] at hu
    exact h'.2 _ v u hv hu
/-- A type's cells read as a kind of plain values. -/
structure Rd (P : Program) (t : TypeId) (α : Type) (eA : α → List V) : Prop where
  rd : ∀ {H : Type} (ec : TypeId × Value → H) (W : World) (n : Nat) (cs : List Value) (x : DataW H × List MemPlace), DataW.trod ec P W 0 (fun _ => true) true n t cs = some x → ∃ a : α, RelL (FW W) cs (eA a)
section
variable {P : Program} {t e : TypeId}
theorem rd_str (ht : P.underlying t = some .string) : Rd P t Str enc := ⟨fun ec W n cs x h => by
  obtain ⟨s, rfl, _, _⟩ := DataW.trod_string ht h
  refine ⟨s.data.toList, relL_one ?_⟩
  have : (Value.string s) = str s.data.toList := by cases s; simp [str]
  rw [this]
  exact .val _ rfl⟩
theorem rd_bool (ht : P.underlying t = some .bool) : Rd P t Bool enc := ⟨fun ec W n cs x h => by
  obtain ⟨b, rfl, _⟩ := DataW.trod_bool ht h
  exact ⟨b, relL_one (.val _ rfl)⟩⟩
theorem rd_i64 (ht : P.underlying t = some (.int .i64)) : Rd P t Int enc := ⟨fun ec W n cs x h => by
  obtain ⟨z, rfl, _, _⟩ := DataW.trod_int ht h
  exact ⟨z, relL_one (.val _ rfl)⟩⟩
theorem rd_u8 (ht : P.underlying t = some (.int .u8)) : Rd P t UInt8 enc := ⟨fun ec W n cs x h => by
  obtain ⟨z, rfl, _, hw⟩ := DataW.trod_int ht h
  have h : 0 ≤ z ∧ z ≤ 255 := by simpa [Lit.wf, IntKind.min, IntKind.max, IntKind.signed, IntKind.bits] using hw
  refine ⟨UInt8.ofNat z.toNat, relL_one ?_⟩
  have : z = ((UInt8.ofNat z.toNat).toNat : Int) := by simp; omega
  conv => arg 3; rw [this]
  exact .val _ rfl⟩
theorem list_of {α : Type} (p : Nat → α → Prop) : ∀ (n : Nat), (∀ i, i < n → ∃ a, p i a) → ∃ l : List α, l.length = n ∧ ∀ i a, l[i]? = some a → p i a
  | 0, _ => ⟨[], rfl, fun i a h => by simp at h⟩
  | n + 1, h => by
    obtain ⟨l, hl, hp⟩ := list_of p n fun i hi => h i (by omega)
    obtain ⟨a, ha⟩ := h n (by omega)
    refine ⟨l ++ [a], by simp [hl], fun i b hb => ?_⟩
    by_cases hi : i < n
    · rw [List.getElem?_append_left (by omega)] at hb
      exact hp i b hb
    · rw [List.getElem?_append_right (by omega)] at hb
      have : i = n := by
        have := (List.getElem?_eq_some_iff.1 hb).1
        simp at this; omega
      subst this
      rw [hl, Nat.sub_self] at hb
      simp at hb
      subst hb
      exact ha
theorem addr_add (b o m : Nat) : (⟨b, o, none⟩ : Addr).add m = ⟨b, o + m, none⟩ := by
  unfold Addr.add
  split
  · rename_i h; subst h; rfl
  · rfl
theorem rd_list {α : Type} [Enc α] (ht : P.underlying t = some (.slice e)) (hc : P.cellsOf e = Enc.sz α) (h0 : 0 < Enc.sz α) (he : Rd P e α enc) : Rd P t (List α) (fun l => [ar l]) := ⟨fun ec W n cs x h => by
  rcases DataW.trod_slice ht h with ⟨rfl, _⟩ | ⟨a, len, cap, elems, rest, m, _, rfl, _, _, hlc, hm, hlen, hel, _, _⟩
  · exact ⟨[], relL_one (.arr none 0 0 (Enc.sz α) [] (fun _ _ => default) rfl (Nat.le_refl _) (by decide) (fun _ _ h => by simp at h) (fun _ _ _ _ h => by simp at h) (fun h => absurd rfl h) (fun _ _ _ _ h => by simp at h))⟩
  · obtain ⟨l, hl, hp⟩ := list_of (fun (i : Nat) (y : α) => ∃ ds, W.cells? 0 (a.add (i * P.cellsOf e)) (P.cellsOf e) = some ds ∧ RelL (FW W) ds (enc y)) len fun i hi => by
      have hx := hel i hi
      rw [List.getElem?_eq_getElem (by omega), Option.bind_eq_some_iff] at hx
      obtain ⟨ds, h1, h2⟩ := hx
      obtain ⟨y, hy⟩ := he.rd ec W m ds _ h2
      exact ⟨y, ds, h1, hy⟩
    obtain ⟨b, o, sp⟩ := a
    have hsp : len ≠ 0 → sp = none := fun hn => by
      obtain ⟨y, hy⟩ : ∃ y, l[0]? = some y := ⟨l[0], List.getElem?_eq_getElem (by omega)⟩
      obtain ⟨ds, h1, _⟩ := hp 0 y hy
      have h2 := (World.cells?_some h1)
      have h3 := h2.2.2 0 (by omega)
      rw [List.getElem?_eq_getElem (by omega)] at h3
      have := World.cell?_spot h3
      simpa [Addr.add] using this
    have key : ∀ (i : Nat) (y : α) (j : Nat) (u : V), l[i]? = some y → (enc y)[j]? = some u → ∃ v, W.cell? ⟨b, o + i * Enc.sz α + j, none⟩ = some v ∧ Rel (FW W) ν0 v u := fun i y j u hi hu => by
      obtain ⟨ds, h1, h2⟩ := hp i y hi
      have hn : len ≠ 0 := by have := (List.getElem?_eq_some_iff.1 hi).1; omega
      rw [hsp hn, hc, addr_add] at h1
      have h3 := World.cells?_some h1
      have hj : j < ds.length := by rw [h2.1]; exact (List.getElem?_eq_some_iff.1 hu).1
      have h4 := h3.2.2 j (by omega)
      rw [addr_add, List.getElem?_eq_getElem hj] at h4
      exact ⟨ds[j], h4, h2.2 j _ u (List.getElem?_eq_getElem hj) hu⟩
    have at_ : ∀ (i : Nat) (el : List V), (l.map enc)[i]? = some el → ∃ y, l[i]? = some y ∧ el = enc y := fun i el hi => by
      rw [List.getElem?_map] at hi
      cases hy : l[i]? with
      | none => rw [hy] at hi; cases hi
      | some y => rw [hy] at hi; cases hi; exact ⟨y, rfl, rfl⟩
    refine ⟨l, relL_one (.arr (some ⟨b, o, sp⟩) len cap (Enc.sz α) (l.map enc) (fun i j => (W.cell? ⟨b, o + i * Enc.sz α + j, none⟩).getD default) (by simpa using hl) hlc hm (fun i el hi => ?_) (fun i el j u hi hj => ?_) (fun hn => ⟨b, o, by rw [hsp hn], fun i el j u hi hj => ?_⟩) (fun i el j u hi hj => ?_))⟩
    · obtain ⟨y, _, rfl⟩ := at_ i el hi; exact Enc.len y
    · obtain ⟨y, _, rfl⟩ := at_ i el hi; exact Enc.cell y u (List.mem_of_getElem? hj)
    · obtain ⟨y, hy, rfl⟩ := at_ i el hi
      obtain ⟨v, hv, _⟩ := key i y j u hy hj
      show W.cell? _ = _
      rw [hv]; rfl
    · obtain ⟨y, hy, rfl⟩ := at_ i el hi
      obtain ⟨v, hv, hr⟩ := key i y j u hy hj
      rw [hv]; exact hr⟩
/-- The fields of a struct from one on. -/
structure RdF (P : Program) (tot : Nat) (fs : List Field) (off : Nat) (τ : Type) (eT : τ → List V) : Prop where
  rd : ∀ {H : Type} (ec : TypeId × Value → H) (W : World) (n : Nat) (cs : List Value), cs.length = tot → (∀ f ∈ fs, ∃ y, DataW.trod ec P W 0 (fun _ => true) true n f.type ((cs.drop f.offset).take (P.cellsOf f.type)) = some y) → ∃ a : τ, RelL (FW W) (cs.drop off) (eT a)
theorem rdF_nil {tot : Nat} : RdF P tot [] tot Unit fun _ => [] := ⟨fun {_} ec W n cs hl _ => ⟨(), by rw [List.drop_of_length_le (by omega)]; exact ⟨rfl, fun j v u h => by simp at h⟩⟩⟩
theorem rdF_cons {tot : Nat} {f : Field} {fs : List Field} {off off' s : Nat} {α τ : Type} {eA : α → List V} {eT : τ → List V} (ho : f.offset = off) (hc : P.cellsOf f.type = s) (hoff : off' = off + s) (h : Rd P f.type α eA) (h' : RdF P tot fs off' τ eT) :
    RdF P tot (f :: fs) off (α × τ) fun p => eA p.1 ++ eT p.2 := ⟨fun {_} ec W n cs hl hf => by
  obtain ⟨y, hy⟩ := hf f (by simp)
  obtain ⟨a, ha⟩ := h.rd ec W n _ y hy
  obtain ⟨b, hb⟩ := h'.rd ec W n cs hl fun g hg => hf g (by simp [hg])
  refine ⟨(a, b), ?_⟩
  rw [ho, hc] at ha
  have e : cs.drop off = (cs.drop off).take s ++ cs.drop off' := by rw [hoff, ← List.drop_drop, List.take_append_drop]
  rw [e]
  exact relL_app ha hb⟩
theorem rd_struct {l : List Field} {tot : Nat} {τ γ : Type} [Enc γ] {eT : τ → List V} (ht : P.underlying t = some (.struct l.toArray)) (hc : P.cellsOf t = tot) (hf : RdF P tot l 0 τ eT) (mk : τ → γ) (hmk : ∀ x, enc (mk x) = eT x) : Rd P t γ enc := ⟨fun ec W n cs x h => by
  obtain ⟨xs, m, _, _, hcs, hxs, hx⟩ := DataW.trod_struct ht h
  obtain ⟨a, ha⟩ := hf.rd ec W m cs (hcs.trans hc) fun f hf => by
    obtain ⟨i, hi⟩ := List.getElem?_of_mem hf
    have hi' : l.toArray[i]? = some f := by simpa using hi
    have := hx i f hi'
    have hlt : i < xs.length := by rw [hxs]; exact (Array.getElem?_eq_some_iff.1 hi').1
    rw [List.getElem?_eq_getElem hlt] at this
    exact ⟨_, this⟩
  exact ⟨mk a, by rw [hmk]; exact ha⟩⟩
end
section
variable {H : Type} {ec : TypeId × Value → H} {P : Program} {W : World} {t : TypeId} {v : Value} {d : DataW H} {ps : List MemPlace}
/-- An argument of one cell. -/
theorem arg_cell {α : Type} {u : α → V} (h : Rd P t α fun a => [u a]) (hc : v.cells.toList = [v]) (hd : DataW.Trod ec P W 0 (fun _ => true) true t v d ps) : ∃ a : α, Rel (FW W) ν0 v (u a) := by
  obtain ⟨n, hn⟩ := hd
  obtain ⟨a, ha⟩ := h.rd ec W n _ _ hn
  rw [hc] at ha
  exact ⟨a, ha.2 0 v (u a) rfl rfl⟩
/-- An argument that is a struct. -/
theorem arg_agg {α : Type} [Enc α] (h : Rd P t α enc) {cs : Array Value} (hv : v = .agg cs) (hd : DataW.Trod ec P W 0 (fun _ => true) true t v d ps) : ∃ a : α, Rel (FW W) ν0 v (.agg (enc a)) := by
  obtain ⟨n, hn⟩ := hd
  obtain ⟨a, ha⟩ := h.rd ec W n _ _ hn
  subst hv
  have e : (Value.agg cs).cells.toList = cs.toList := rfl
  rw [e] at ha
  refine ⟨a, ?_⟩
  have := Rel.agg (F := FW W) (ν := ν0) cs.toList (enc a) ha.1 (fun j u hu => Enc.cell a u (List.mem_of_getElem? hu)) ha.2
  simpa using this
end
/-- A string is its bytes. -/
theorem rel_str {F : Fz} {ν : Nu} (s : ByteArray) : Rel F ν (.string s) (tx s.data.toList) := by
  have : (Value.string s) = str s.data.toList := by cases s; simp [str]
  rw [this]
  exact .val _ rfl
/-- A slice is one cell. -/
theorem cells_slice {P : Program} {W : World} {t e : TypeId} {v : Value} (ht : P.underlying t = some (.slice e)) (h : Value.okWide P W .any 0 t v) : v.cells.toList = [v] := by
  unfold Value.okWide at h
  rw [ht] at h
  simp only [Cell.okWide, ht] at h
  cases v <;> first | rfl | (simp [Cell.ok, ht] at h)
theorem agg_struct {P : Program} {W : World} {t : TypeId} {fs : Array Field} {v : Value} (ht : P.underlying t = some (.struct fs)) (h : Value.okWide P W .any 0 t v) : ∃ cs, v = .agg cs := by
  unfold Value.okWide at h
  rw [ht] at h
  exact ⟨h.choose, h.choose_spec.1⟩
/-- Where a call from outside begins: nothing of what is there turns. -/
theorem ok_startW (W : World) (cs bs : List Nat) : @Ok (tabOf W cs bs) ⟨W, FW W, own0 ν0 M0⟩ (FW W) ν0 M0 W := by
  letI := tabOf W cs bs
  refine ⟨fun b o v h => h, fun _ _ h => by simp [M0] at h, fun _ _ _ _ _ _ h => by simp [M0] at h, ⟨rfl, rfl, rfl, Nat.le_refl _, fun _ _ _ => rfl⟩, fun _ _ _ h => by simp [M0] at h, ⟨fun b o v h => ?_, fun b o h => ?_⟩, fun _ _ _ _ => rfl⟩
  · have h : (if b ∈ cs ∨ b ∈ bs then W.cell? ⟨b, o, none⟩ else none) = some v := h
    split at h
    · exact h
    · cases h
  · have h : (if b ∈ bs then (match W.heap[b]? with
      | some (.cells c t f) => if 0 < c.size then some (.cells c t f) else none
      | _ => none) else none) = some o := h
    split at h
    · split at h
      · rename_i c t f hh
        split at h
        · show W.heap[b]? = _
          rw [hh]; exact h
        · cases h
      · cases h
    · cases h
/-- What a law's contract says of a call from outside. -/
theorem pu_callsW {P : Program} {f : Nat} {W : World} {cs bs : List Nat} {vs : List Value} {us : List V} {v : Value} (h : @Pu (tabOf W cs bs) P f us (.val v)) (hl : vs.length = us.length)
    (hr : ∀ (j : Nat) (x : Value) (u : V), vs[j]? = some x → us[j]? = some u → Rel (FW W) ν0 x u) :
    Calls P f vs.toArray W fun e w' => e = .returned v ∧ Below W.heap.size W w' :=
  letI := tabOf W cs bs
  (h.run W (FW W) ν0 vs (ok_startW W cs bs) (fun _ _ => rfl) hl hr).mono fun e w' hx => by
  obtain ⟨x, F', ν', rfl, ok', _, _, hr⟩ := hx
  rw [rel_val hr]
  exact ⟨rfl, ok'.below.os, ok'.below.tape, ok'.below.output, ok'.below.size, fun b hb => ok'.below.block b hb (fun ⟨_, _, _, h, _⟩ => by cases h)⟩
end Go.Ka
