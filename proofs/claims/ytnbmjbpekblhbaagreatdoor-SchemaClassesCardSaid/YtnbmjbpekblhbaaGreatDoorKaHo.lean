/- Functions that are handed functions: closures over cells that they read. -/
import Derived.Test.YtnbmjbpekblhbaaGreatDoorKaY
set_option linter.all false
namespace Go.Ka
open Go.RowKit
variable [Tab]

def KeepL (σ : Nat → V) : List (Nat × V) → Prop
  | [] => True
  | p :: r => Wk (σ p.1) p.2 ∧ KeepL σ r
theorem KeepL.maps {σ : Nat → V} {L : List (Nat × V)} (h : KeepL σ L) {a : Act} {F : Fz} {ν : Nu} (hm : Maps a F ν σ) : Maps a F ν (ls L) := by
  intro t
  induction L with
  | nil => exact .any _
  | cons p r ih =>
    rw [ls_cons]
    split
    · rename_i e; subst e; exact h.1 _ _ _ (hm _)
    · exact ih h.2
/-- The same objects; slots let go, and known less. -/
theorem to_keep {X : Cx} {σ : Nat → V} {M : Hp} {n n' : Nat} (hn : n ≤ n') {L : List (Nat × V)} (hL : KeepL σ L) : To X ⟨σ, M, n⟩ ⟨ls L, M, n'⟩ := fun a w F ν hs =>
  ⟨F, ν, ⟨hs.ok, fun id hid => hs.nxt id (Nat.le_trans hn hid), hL.maps hs.maps, hs.size, hs.df, hs.leF, hs.old, Nat.le_trans hs.le hn⟩⟩
theorem wkr {u : V} : Wk u u := Wk.refl u

/-- A closure that reads what it caught, as a plain function. -/
structure Clo (P : Program) (f : Nat) (caps : List V) (Mc : Hp) (n : Nat) {α β : Type} (ea : α → List V) (eb : β → V) (p : α → Option β) : Prop where
  pl : plain P f = true
  run : ∀ x b, p x = some b → ∀ n', n ≤ n' → Fx P f (ea x ++ caps) Mc n' (eb b) []
  caps : ∀ u ∈ caps, Old n u
  M : ∀ x o, Mc x = some o → x < n ∧ OldO n o
theorem Clo.mono {P : Program} {f : Nat} {caps : List V} {Mc : Hp} {n n' : Nat} {α β : Type} {ea : α → List V} {eb : β → V} {p : α → Option β} (h : Clo P f caps Mc n ea eb p) (hn : n ≤ n') : Clo P f caps Mc n' ea eb p :=
  ⟨h.pl, fun x b hb m hm => h.run x b hb m (Nat.le_trans hn hm), fun u hu y hy => Nat.lt_of_lt_of_le (h.caps u hu y hy) hn, fun x o hx => ⟨Nat.lt_of_lt_of_le (h.M x o hx).1 hn, fun el hel u hu y hy => Nat.lt_of_lt_of_le ((h.M x o hx).2 el hel u hu y hy) hn⟩⟩

/-- Objects of plain cells. -/
def NFO (o : Ob) : Prop := ∀ el ∈ o.els, ∀ u ∈ el, NF u
theorem zip_at : ∀ {is : List Nat} {os : List Ob} {x : Nat} {o : Ob}, hl (is.zip os) x = some o → ∃ j : Nat, is[j]? = some x ∧ os[j]? = some o := by
  intro is
  induction is with
  | nil => intro os x o h; simp [hl] at h
  | cons i r ih =>
    intro os x o h
    cases os with
    | nil => simp [hl] at h
    | cons p q =>
      rw [List.zip_cons_cons, hl_cons] at h
      split at h
      · rename_i e; cases h; exact ⟨0, by simp [e], by simp⟩
      · obtain ⟨j, h1, h2⟩ := ih h
        exact ⟨j + 1, by simpa using h1, by simpa using h2⟩
theorem at_zip : ∀ {is : List Nat} {os : List Ob} {x j : Nat} {o : Ob}, is.Nodup → is[j]? = some x → os[j]? = some o → hl (is.zip os) x = some o := by
  intro is
  induction is with
  | nil => intro os x j o _ h; simp at h
  | cons i r ih =>
    intro os x j o hn h1 h2
    cases os with
    | nil => simp at h2
    | cons p q =>
      rw [List.zip_cons_cons, hl_cons]
      cases j with
      | zero => simp at h1 h2; simp [h1, h2]
      | succ j =>
        simp at h1 h2
        have hx : x ∈ r := List.mem_of_getElem? h1
        have hne : x ≠ i := fun e => (List.nodup_cons.1 hn).1 (e ▸ hx)
        rw [if_neg hne]
        exact ih (List.nodup_cons.1 hn).2 h1 h2

theorem Ok.alike {w0 w : World} {F0 F : Fz} {D1 D2 : Nat → Prop} {ν1 ν2 : Nu} {M1 M2 : Hp} (h : Ok ⟨w0, F0, D1⟩ F ν1 M1 w) (hD : ∀ b, D1 b ↔ D2 b) (τ : Nat → Nat) (hm : ∀ x o, M2 x = some o → M1 (τ x) = some o ∧ ν2 x = ν1 (τ x) ∧ NFO o)
    (hinj : ∀ x y o o', M2 x = some o → M2 y = some o' → τ x = τ y → x = y) : Ok ⟨w0, F0, D2⟩ F ν2 M2 w := by
  refine ⟨h.fz, fun x o hx => ?_, fun x y o o' k k' hx hy hne hkx hky => ?_, ⟨h.below.os, h.below.tape, h.below.output, h.below.size, fun b hb hd => h.below.block b hb fun h1 => hd ((hD b).1 h1)⟩, fun x o k hx hkx hv => ?_, h.tab, fun b o hb hd => h.ice b o hb fun h1 => hd ((hD b).1 h1)⟩
  · obtain ⟨h1, h2, h3⟩ := hm x o hx
    obtain ⟨k, hk, hat, hf⟩ := h.ob _ _ h1
    refine ⟨k, h2.trans hk, ?_, hf⟩
    rcases hat with ⟨hv, cur, ty, fr, g1, ⟨g2, gty⟩, g3, g4, g5, g6, g7⟩ | hat
    · refine .inl ⟨hv, cur, ty, fr, g1, ⟨g2, gty⟩, g3, g4, g5, g6, fun i el j u a b => ?_⟩
      obtain ⟨hc, v, hv, hr⟩ := g7 i el j u a b
      exact ⟨hc, v, hv, hr.nf (h3 el (List.mem_of_getElem? a) u (List.mem_of_getElem? b))⟩
    · exact .inr hat
  · obtain ⟨h1, h2, _⟩ := hm x o hx
    obtain ⟨g1, g2, _⟩ := hm y o' hy
    exact h.inj _ _ o o' k k' h1 g1 (fun e => hne (hinj x y o o' hx hy e)) (h2 ▸ hkx) (g2 ▸ hky)
  · obtain ⟨h1, h2, _⟩ := hm x o hx
    exact (h.live _ o k h1 (h2 ▸ hkx) hv).imp (hD _).1 id

/-- A contract over plain cells by the numbers 0 .. k-1, by other numbers. -/
theorem fx_cl {P : Program} {f : Nat} {us us' : List V} {os : List Ob} {is : List Nat} {u : V} {n : Nat} (hlen : is.length = os.length) (hnf : ∀ o ∈ os, NFO o) (hu : NF u) (h : FS P f us (hl ((List.range os.length).zip os)) os.length u [])
    (hnd : is.Nodup) (hlt : ∀ i ∈ is, i < n) (hus : Trs (fun j => is.getD j 0) (List.range os.length) [] us' us) (hold : ∀ x ∈ us', Old n x) : Fx P f us' (hl (is.zip os)) n u [] := by
  have hM : ∀ x o, hl (is.zip os) x = some o → x < n ∧ NFO o := fun x o hx => by
    obtain ⟨j, h1, h2⟩ := zip_at hx
    exact ⟨hlt x (List.mem_of_getElem? h1), hnf o (List.mem_of_getElem? h2)⟩
  refine ⟨hold, fun x o hx => ⟨(hM x o hx).1, fun el hel u hu => ((hM x o hx).2 el hel u hu).old n⟩, (fun e he => by cases he), fun x o hx el hel u hu => ((hM x o hx).2 el hel u hu).old _, hu.old _, ?_⟩
  intro w F ν args hok hnx hl1 hargs
  let k := os.length
  let τ : Nat → Nat := fun j => is.getD j 0
  let νc : Nu := fun y => if y < k then ν (τ y) else none
  have cEq : ∀ y, y < k → νc y = ν (τ y) := fun y hy => if_pos hy
  have τat : ∀ j, j < k → is[j]? = some (τ j) := fun j hj => by
    have : j < is.length := by omega
    show is[j]? = some (is.getD j 0)
    rw [List.getD_eq_getElem?_getD, List.getElem?_eq_getElem this]; rfl
  have ofC : ∀ j o, hl ((List.range os.length).zip os) j = some o → j < k ∧ os[j]? = some o := fun j o hj => by
    obtain ⟨i, h1, h2⟩ := zip_at hj
    have hi : i < k := (List.getElem?_eq_some_iff.1 h2).1
    rw [List.getElem?_range hi] at h1
    cases h1
    exact ⟨hi, h2⟩
  have toC : ∀ j o, j < k → os[j]? = some o → hl ((List.range os.length).zip os) j = some o := fun j o hj ho => at_zip List.nodup_range (by rw [List.getElem?_range hj]) ho
  have τinj : ∀ x y, x < k → y < k → τ x = τ y → x = y := fun x y hx hy e => by
    have h1 := τat x hx
    have h2 := τat y hy
    rw [e] at h1
    exact (List.getElem?_inj (by omega) hnd).1 (h1.trans h2.symm)
  have hDD : ∀ b, own0 ν (hl (is.zip os)) b ↔ own0 νc (hl ((List.range os.length).zip os)) b := fun b => by
    constructor
    · rintro ⟨x, o, kb, h1, h2, h3, h4⟩
      obtain ⟨j, g1, g2⟩ := zip_at h1
      have hj : j < k := (List.getElem?_eq_some_iff.1 g2).1
      refine ⟨j, o, kb, toC j o hj g2, ?_, h3, h4⟩
      rw [cEq j hj]
      have := τat j hj
      rw [g1] at this
      cases this
      exact h2
    · rintro ⟨j, o, kb, h1, h2, h3, h4⟩
      obtain ⟨hj, g⟩ := ofC j o h1
      exact ⟨τ j, o, kb, at_zip hnd (τat j hj) g, by rw [← cEq j hj]; exact h2, h3, h4⟩
  have okc : Ok ⟨w, F, own0 νc (hl ((List.range os.length).zip os))⟩ F νc (hl ((List.range os.length).zip os)) w := hok.alike hDD τ (fun j o hj => by
      obtain ⟨h1, h2⟩ := ofC j o hj
      exact ⟨at_zip hnd (τat j h1) h2, cEq j h1, hnf o (List.mem_of_getElem? h2)⟩) (fun x y o o' hx hy e => τinj x y (ofC x o hx).1 (ofC y o' hy).1 e)
  refine (h w F νc args okc (fun y hy => if_neg (by omega)) (hl1.trans hus.len) (fun j v u hv hu => ?_)).mono fun e w' hx => ?_
  · obtain ⟨u0, h0, hw⟩ := hus.at j u hu
    exact hw F ν νc v (fun y hy => cEq y (List.mem_range.1 hy)) (fun y hy => by cases hy) (hargs j v u0 hv h0)
  · obtain ⟨v, F', ν', rfl, ok', hF, hold', hrel⟩ := hx
    refine ⟨v, F', ν, rfl, ?_, hF, fun _ _ => rfl, hrel.nf hu⟩
    refine Ok.alike ok' (fun b => (hDD b).symm) (fun x => is.idxOf x) (fun x o hx => ?_) (fun x y o o' hx hy e => ?_)
    · obtain ⟨j, h1, h2⟩ := zip_at hx
      have hj : j < k := (List.getElem?_eq_some_iff.1 h2).1
      have hx' : x ∈ is := List.mem_of_getElem? h1
      have hi : is.idxOf x < is.length := List.idxOf_lt_length_iff.2 hx'
      have e : is.idxOf x = j := by
        have h3 : is[is.idxOf x]? = some x := by rw [List.getElem?_eq_getElem hi, List.getElem_idxOf]
        exact (List.getElem?_inj hi hnd).1 (h3.trans h1.symm)
      refine ⟨?_, ?_, hnf o (List.mem_of_getElem? h2)⟩
      · show app [] _ (is.idxOf x) = _
        rw [e]
        exact toC j o hj h2
      · rw [e, hold' j hj, cEq j hj]
        have := τat j hj
        rw [h1] at this
        cases this
        rfl
    · obtain ⟨i, h1, _⟩ := zip_at hx
      obtain ⟨j, h2, _⟩ := zip_at hy
      have hx' : x ∈ is := List.mem_of_getElem? h1
      have hy' : y ∈ is := List.mem_of_getElem? h2
      have e1 : is[is.idxOf x]? = some x := by rw [List.getElem?_eq_getElem (List.idxOf_lt_length_iff.2 hx'), List.getElem_idxOf]
      have e2 : is[is.idxOf y]? = some y := by rw [List.getElem?_eq_getElem (List.idxOf_lt_length_iff.2 hy'), List.getElem_idxOf]
      have e3 : is.idxOf x = is.idxOf y := e
      rw [e3, e2] at e1
      exact (Option.some.inj e1).symm

def ptrs (is : List Nat) : List V := is.map fun i => .ptr i 0 0
theorem Trs.of {ρ : Nat → Nat} {D Z : List Nat} : ∀ {us us' : List V}, us.length = us'.length → (∀ (j : Nat) (u u' : V), us[j]? = some u → us'[j]? = some u' → Tr ρ D Z u u') → Trs ρ D Z us us' := by
  intro us
  induction us with
  | nil => intro us' hl _; cases us' with | nil => exact .nil | cons => simp at hl
  | cons u r ih =>
    intro us' hl h
    cases us' with
    | nil => simp at hl
    | cons u' r' => exact .cons (h 0 u u' rfl rfl) (ih (by simpa using hl) fun j a b ha hb => h (j + 1) a b (by simpa using ha) (by simpa using hb))

theorem clo_of {P : Program} {f : Nat} {α β : Type} {ea : α → List V} {eb : β → V} {p : α → Option β} {os : List Ob} {is : List Nat} {n : Nat} (hpl : plain P f = true) (hlen : is.length = os.length) (hnf : ∀ o ∈ os, NFO o) (hea : ∀ x, ∀ u ∈ ea x, NF u) (heb : ∀ b, NF (eb b))
    (h : ∀ x b, p x = some b → FS P f (ea x ++ ptrs (List.range os.length)) (hl ((List.range os.length).zip os)) os.length (eb b) []) (hnd : is.Nodup) (hlt : (is.all fun i => Nat.blt i n) = true) : Clo P f (ptrs is) (hl (is.zip os)) n ea eb p := by
  have hlt : ∀ i ∈ is, i < n := fun i hi => by simpa using List.all_eq_true.1 hlt i hi
  have hcap : ∀ m, n ≤ m → ∀ u ∈ ptrs is, Old m u := fun m hm u hu y hy => by
    obtain ⟨i, hi, rfl⟩ := List.mem_map.1 hu
    cases hy
    exact Nat.lt_of_lt_of_le (hlt _ hi) hm
  refine ⟨hpl, fun x b hb n' hn' => fx_cl hlen hnf (heb b) (h x b hb) hnd (fun i hi => Nat.lt_of_lt_of_le (hlt i hi) hn') (Trs.append (Trs.nfs (hea x)) (Trs.of (by simp [ptrs, hlen]) fun j u u' h1 h2 => ?_)) (fun u hu => ?_), hcap n (Nat.le_refl _), fun x o hx => ?_⟩
  · simp only [ptrs, List.getElem?_map] at h1 h2
    cases hi : is[j]? with
    | none => simp [hi] at h1
    | some i =>
      have hj : j < os.length := by rw [← hlen]; exact (List.getElem?_eq_some_iff.1 hi).1
      simp [hi] at h1
      subst h1
      rw [List.getElem?_range hj] at h2
      simp at h2
      subst h2
      refine Tr.ptr ?_
      simp only [Bool.and_eq_true, List.elem_eq_contains, List.contains_iff_mem, List.mem_range]
      refine ⟨hj, ?_⟩
      rw [List.getD_eq_getElem?_getD, hi]
      simp
  · rcases List.mem_append.1 hu with h1 | h1
    · exact (hea x u h1).old _
    · exact hcap n' hn' u h1
  · obtain ⟨j, h1, h2⟩ := zip_at hx
    exact ⟨hlt x (List.mem_of_getElem? h1), fun el hel u hu => (hnf o (List.mem_of_getElem? h2) el hel u hu).old n⟩

theorem fx_ho {P : Program} {f F : Nat} {caps us : List V} {Mc : Hp} {n : Nat} {α β : Type} {ea : α → List V} {eb : β → V} {p : α → Option β} {u : V} (hc : Clo P f caps Mc n ea eb p) (hus : ∀ x ∈ us, NF x ∨ x = .fn f caps) (hu : NF u) (run : FS P F us Mc n u []) : Fx P F us Mc n u [] :=
  ⟨fun x hx => by
    rcases hus x hx with h | rfl
    · exact h.old n
    · intro y hy
      cases hy with
      | fn h2 h3 => exact hc.caps _ (List.mem_of_getElem? h2) y h3,
  hc.M, (fun e he => by cases he), fun x o hx el hel u hu y hy => Nat.lt_succ_of_lt ((hc.M x o hx).2 el hel u hu y hy), hu.old _, run⟩
theorem nfon : ∀ o ∈ ([] : List Ob), NFO o := fun _ h => by cases h
theorem nfoc {o : Ob} {l : List Ob} (h : NFO o) (r : ∀ o ∈ l, NFO o) : ∀ x ∈ o :: l, NFO x := fun x hx => by
  rcases List.mem_cons.1 hx with rfl | hx
  · exact h
  · exact r x hx
theorem nfo1 {cs : List V} {n : Nat} (h : ∀ u ∈ cs, NF u) : NFO ⟨[cs], n⟩ := fun el hel u hu => by
  rw [List.mem_singleton.1 hel] at hu
  exact h u hu
def AllH (M : Hp) : List (Nat × Ob) → Prop
  | [] => True
  | p :: r => M p.1 = some p.2 ∧ AllH M r
theorem subH {M : Hp} {H : List (Nat × Ob)} (h : AllH M H) : Sub (hl H) M := by
  induction H with
  | nil => intro x o hx; cases hx
  | cons p r ih =>
    intro x o hx
    rw [hl_cons] at hx
    split at hx
    · rename_i e; subst e; cases hx; exact h.1
    · exact ih h.2 x o hx
theorem nfF {f : Nat} {caps : List V} : ∀ x ∈ ([] : List V), NF x ∨ x = .fn f caps := fun _ h => by cases h
theorem nfcF {f : Nat} {caps : List V} {a : V} {l : List V} (h : NF a) (r : ∀ x ∈ l, NF x ∨ x = .fn f caps) : ∀ x ∈ a :: l, NF x ∨ x = .fn f caps := fun u hu => by
  rcases List.mem_cons.1 hu with rfl | hu
  · exact .inl h
  · exact r u hu
theorem nffF {f : Nat} {caps : List V} {l : List V} (r : ∀ x ∈ l, NF x ∨ x = .fn f caps) : ∀ x ∈ (.fn f caps) :: l, NF x ∨ x = .fn f caps := fun u hu => by
  rcases List.mem_cons.1 hu with rfl | hu
  · exact .inr rfl
  · exact r u hu
end Go.Ka
