/- strings.Builder: its methods' contracts, by any numbers. -/
import Derived.Test.YtnbmjbpekblhbaaGreatDoorKaBu
import Derived.Test.YtnbmjbpekblhbaaGreatDoorKaLi
import Derived.Shelf.Strings.Builder1
set_option linter.all false
namespace Go.Ka
open Go.RowKit
variable [Tab]

theorem Ok.rename {w0 w : World} {F0 F : Fz} {D1 D2 : Nat → Prop} {ν1 ν2 : Nu} {M1 M2 : Hp} (h : Ok ⟨w0, F0, D1⟩ F ν1 M1 w) (hD : ∀ b, D1 b ↔ D2 b) (ρ : Nat → Nat)
    (hm : ∀ x o, M2 x = some o → ∃ o1, M1 (ρ x) = some o1 ∧ ν2 x = ν1 (ρ x) ∧ o1.sz = o.sz ∧ o1.els = o.els.map (List.map (ren ρ)) ∧ ∀ el ∈ o.els, ∀ u ∈ el, ∀ y, u.names y → ν2 y = ν1 (ρ y))
    (hinj : ∀ x y o o', M2 x = some o → M2 y = some o' → ρ x = ρ y → x = y) : Ok ⟨w0, F0, D2⟩ F ν2 M2 w := by
  refine ⟨h.fz, fun x o hx => ?_, fun x y o o' k k' hx hy hne hkx hky => ?_, ⟨h.below.os, h.below.tape, h.below.output, h.below.size, fun b hb hd => h.below.block b hb fun h1 => hd ((hD b).1 h1)⟩, fun x o k hx hkx hv => ?_, h.tab, fun b o hb hd => h.ice b o hb fun h1 => hd ((hD b).1 h1)⟩
  · obtain ⟨o1, h1, h2, h3, h4, h5⟩ := hm x o hx
    obtain ⟨k, hk, hat, hf⟩ := h.ob _ _ h1
    refine ⟨k, h2.trans hk, ?_, hf⟩
    have at1 : ∀ {i : Nat} {el : List V}, o.els[i]? = some el → o1.els[i]? = some (el.map (ren ρ)) := fun hi => by rw [h4, List.getElem?_map, hi]; rfl
    have hlen : o1.els.length = o.els.length := by rw [h4, List.length_map]
    rcases hat with ⟨hv, cur, ty, fr, g1, ⟨g2, gty⟩, g3, g4, g5, g6, g7⟩ | ⟨hv, g1, g2, g3⟩
    · refine .inl ⟨hv, cur, ty, fr, g1, ⟨g2, gty⟩, g3, g4.trans h3, fun i el hi => ?_, by rw [← hlen, ← h3]; exact g6, fun i el j u a b => ?_⟩
      · have := g5 i _ (at1 hi)
        rw [List.length_map] at this
        rw [this, h3]
      · obtain ⟨hc, v, hv, hr⟩ := g7 i _ j (ren ρ u) (at1 a) (by rw [List.getElem?_map, b]; rfl)
        rw [ren_cell] at hc
        exact ⟨hc, v, by rw [← h3]; exact hv, hr.unren u rfl fun y hy => h5 el (List.mem_of_getElem? a) u (List.mem_of_getElem? b) y hy⟩
    · exact .inr ⟨hv, g1, g2.trans h3, List.eq_nil_of_length_eq_zero (by rw [← hlen, g3]; rfl)⟩
  · obtain ⟨o1, h1, h2, _⟩ := hm x o hx
    obtain ⟨o2, g1, g2, _⟩ := hm y o' hy
    exact h.inj _ _ o1 o2 k k' h1 g1 (fun e => hne (hinj x y o o' hx hy e)) (h2 ▸ hkx) (g2 ▸ hky)
  · obtain ⟨o1, h1, h2, _⟩ := hm x o hx
    exact (h.live _ o1 k h1 (h2 ▸ hkx) hv).imp (hD _).1 id

theorem hl_two {a b x : Nat} {o p q : Ob} (h : hl [(a, o), (b, p)] x = some q) : (x = a ∧ q = o) ∨ (x ≠ a ∧ x = b ∧ q = p) := by
  rw [hl_cons] at h
  split at h
  · rename_i e; cases h; exact .inl ⟨e, rfl⟩
  · rename_i e
    obtain ⟨h1, h2⟩ := hl_one h
    exact .inr ⟨e, h1, h2⟩
theorem bO_old {s k m T e n : Nat} (hs : s < n) (hk : k < n) : OldO n (bO s k m T e) := fun el hel u hu y hy => by
  simp only [bO, List.mem_singleton] at hel
  subst hel
  simp only [List.mem_cons, List.not_mem_nil, or_false] at hu
  rcases hu with rfl | rfl
  · cases hy; exact hs
  · cases hy; exact hk
theorem nfo_old {o : Ob} (h : NFO o) (n : Nat) : OldO n o := fun el hel u hu => (h el hel u hu).old n
theorem old_ptr {n s : Nat} (h : s < n) : Old n (.ptr s 0 0) := fun y hy => by cases hy; exact h

/-- A writer's contract, by any numbers. -/
theorem fx_b {P : Program} {f T e j : Nat} {us : List V} {u : V} {l l' : Str} (hus : ∀ x ∈ us, NF x) (hu : NF u)
    (h : FS P f (.ptr 0 0 0 :: us) (hl [(0, bO 0 1 l.length T e), (1, ob l)]) 2 u [(0, some (bO 0 j l'.length T e)), (1, none), (j, some (ob l'))]) (hj : 2 ≤ j) {s k n : Nat} (hs : Nat.blt s n = true) (hk : Nat.blt k n = true) (hne : Nat.beq s k = false) :
    Fx P f (.ptr s 0 0 :: us) (hl [(s, bO s k l.length T e), (k, ob l)]) n u [(s, some (bO s n l'.length T e)), (k, none), (n, some (ob l'))] := by
  have hs : s < n := by simpa using hs
  have hk : k < n := by simpa using hk
  have hne : s ≠ k := fun e => by subst e; simp at hne
  have es_at : ∀ x o, app [(s, some (bO s n l'.length T e)), (k, none), (n, some (ob l'))] (hl [(s, bO s k l.length T e), (k, ob l)]) x = some o → (x = n ∧ o = ob l') ∨ (x = s ∧ o = bO s n l'.length T e) := fun x o hx => by
    simp only [app, setM_at] at hx
    split at hx
    · cases hx; rename_i h; exact .inl ⟨h, rfl⟩
    · split at hx
      · cases hx
      · split at hx
        · cases hx; rename_i h; exact .inr ⟨h, rfl⟩
        · rcases hl_two hx with ⟨h1, h2⟩ | ⟨_, h1, h2⟩ <;> contradiction
  refine ⟨fun x hx => ?_, fun x o hx => ?_, fun q hq => ?_, fun x o hx => ?_, hu.old _, fun w F ν args hok hn hlen hr => ?_⟩
  · rcases List.mem_cons.1 hx with rfl | hx
    · exact old_ptr hs
    · exact (hus x hx).old n
  · rcases hl_two hx with ⟨rfl, rfl⟩ | ⟨_, rfl, rfl⟩
    · exact ⟨hs, bO_old hs hk⟩
    · exact ⟨hk, nfo_old nfob n⟩
  · simp only [List.mem_cons, List.not_mem_nil, or_false] at hq
    rcases hq with rfl | rfl | rfl
    · exact .inl ⟨hs, by simp [hl_cons]⟩
    · exact .inl ⟨hk, by simp [hl_cons, hne.symm]⟩
    · exact .inr rfl
  · rcases es_at x o hx with ⟨rfl, rfl⟩ | ⟨rfl, rfl⟩
    · exact nfo_old nfob _
    · exact bO_old (by omega) (by omega)
  · let ρ : Nat → Nat := fun y => if y = 0 then s else k
    let νc : Nu := fun y => if y = 0 then ν s else if y = 1 then ν k else none
    let Mc : Hp := hl [(0, bO 0 1 l.length T e), (1, ob l)]
    have c0 : νc 0 = ν s := rfl
    have c1 : νc 1 = ν k := rfl
    have hDD : ∀ b, own0 ν (hl [(s, bO s k l.length T e), (k, ob l)]) b ↔ own0 νc Mc b := fun b => by
      constructor
      · rintro ⟨x, o, kb, h1, h2, h3, h4⟩
        rcases hl_two h1 with ⟨rfl, rfl⟩ | ⟨_, rfl, rfl⟩
        · exact ⟨0, _, kb, by simp [Mc, hl_cons]; rfl, h2, h3, h4⟩
        · exact ⟨1, _, kb, by simp [Mc, hl_cons]; rfl, h2, h3, h4⟩
      · rintro ⟨x, o, kb, h1, h2, h3, h4⟩
        rcases hl_two h1 with ⟨rfl, rfl⟩ | ⟨_, rfl, rfl⟩
        · exact ⟨s, _, kb, by simp [hl_cons]; rfl, h2, h3, h4⟩
        · exact ⟨k, _, kb, by simp [hl_cons, hne.symm]; rfl, h2, h3, h4⟩
    have okc : Ok ⟨w, F, own0 νc Mc⟩ F νc Mc w := hok.rename hDD ρ (fun x o hx => by
      rcases hl_two hx with ⟨rfl, rfl⟩ | ⟨_, rfl, rfl⟩
      · refine ⟨bO s k l.length T e, by simp [ρ, hl_cons], rfl, rfl, by simp [bO, ren, ρ], fun el hel u hu y hy => ?_⟩
        simp only [bO, List.mem_singleton] at hel
        subst hel
        simp only [List.mem_cons, List.not_mem_nil, or_false] at hu
        rcases hu with rfl | rfl <;> cases hy
        · rfl
        · rfl
      · refine ⟨ob l, by simp [ρ, hl_cons, hne.symm], rfl, rfl, ?_, fun el hel u hu y hy => absurd hy (nfob el hel u hu y)⟩
        simp only [ob, List.map_map]
        refine List.map_congr_left fun a _ => ?_
        rfl) (fun x y o o' hx hy h => by
      rcases hl_two hx with ⟨rfl, _⟩ | ⟨_, rfl, _⟩ <;> rcases hl_two hy with ⟨rfl, _⟩ | ⟨_, rfl, _⟩ <;> simp [ρ] at h ⊢
      · exact hne h
      · exact hne h.symm)
    refine (h w F νc args okc (fun y hy => by show (if y = 0 then _ else if y = 1 then _ else _) = _; rw [if_neg (by omega), if_neg (by omega)]) (by simpa using hlen) (fun j v u hv hu => ?_)).mono fun e' w' hx => ?_
    · cases j with
      | zero =>
        simp at hu
        subst hu
        exact (hr 0 v (.ptr s 0 0) hv rfl).unren (ρ := ρ) _ (by simp [ren, ρ]) fun y hy => by cases hy; rfl
      | succ j =>
        have hu' : us[j]? = some u := by simpa using hu
        exact (hr (j + 1) v u hv (by simpa using hu')).nf (hus u (List.mem_of_getElem? hu'))
    · obtain ⟨v, F', ν', rfl, ok', hF, hold, hrel⟩ := hx
      let ν2 : Nu := fun x => if x = n then ν' j else ν x
      have n2 : ν2 n = ν' j := if_pos rfl
      have s2 : ν2 s = ν' 0 := by
        show (if s = n then _ else _) = _
        rw [if_neg (by omega), hold 0 (by omega)]
        rfl
      refine ⟨v, F', ν2, rfl, ?_, hF, fun x hx => if_neg (by omega), hrel.nf hu⟩
      have hj0 : j ≠ 0 := by omega
      have hj1 : j ≠ 1 := by omega
      refine Ok.rename ok' (fun b => (hDD b).symm) (fun x => if x = n then j else 0) (fun x o hx => ?_) (fun x y o o' hx hy h => ?_)
      · rcases es_at x o hx with ⟨rfl, rfl⟩ | ⟨rfl, rfl⟩
        · refine ⟨ob l', by simp [app, setM_at], by simp [n2], rfl, ?_, fun el hel u hu y hy => absurd hy (nfob el hel u hu y)⟩
          simp only [ob, List.map_map]
          refine List.map_congr_left fun a _ => ?_
          rfl
        · have hxn : x ≠ n := by omega
          refine ⟨bO 0 j l'.length T e, by simp [app, setM_at, hxn, hj0.symm], by simp [hxn, s2], rfl, by simp [bO, ren, hxn], fun el hel u hu y hy => ?_⟩
          simp only [bO, List.mem_singleton] at hel
          subst hel
          simp only [List.mem_cons, List.not_mem_nil, or_false] at hu
          rcases hu with rfl | rfl <;> cases hy
          · simp [hxn, s2]
          · simp [n2]
      · rcases es_at x o hx with ⟨rfl, _⟩ | ⟨rfl, _⟩ <;> rcases es_at y o' hy with ⟨rfl, _⟩ | ⟨rfl, _⟩ <;> simp at h ⊢
        · have : y ≠ x := by omega
          simp [this] at h
          omega
        · have : x ≠ y := by omega
          simp [this] at h
          omega

/-- copyCheck: a builder knows its own address from then on. -/
theorem fx_cc {P : Program} {f T e : Nat} (h0 : ∀ (b : Nat) (w : World), w.cell? ⟨b, 0, none⟩ = some (.pointer (some ⟨b, 0, none⟩)) → Calls P f #[.pointer (some ⟨b, 0, none⟩)] w fun e w' => e = .returned (.tuple #[]) ∧ w' = w)
    (h1 : ∀ (b : Nat) (w : World), w.cell? ⟨b, 0, none⟩ = some (.pointer none) → w.shape? b = some (T, 2) → w.frozen? ⟨b, 0, none⟩ = false → Calls P f #[.pointer (some ⟨b, 0, none⟩)] w fun e w' => e = .returned (.tuple #[]) ∧ w' = w.setCell ⟨b, 0, none⟩ (.pointer (some ⟨b, 0, none⟩)))
    {s k m n : Nat} (hs : Nat.blt s n = true) (hk : Nat.blt k n = true) : Fx P f [.ptr s 0 0] (hl [(s, bO s k m T e)]) n (.tup []) [(s, some (bO s k m T e))] := by
  have hs : s < n := by simpa using hs
  have hk : k < n := by simpa using hk
  refine ⟨fun x hx => by rw [List.mem_singleton.1 hx]; exact old_ptr hs, fun x o hx => ?_, fun q hq => ?_, fun x o hx => ?_, (NF.tup nfn).old _, fun w F ν args hok hn hlen hr => ?_⟩
  · obtain ⟨rfl, rfl⟩ := hl_one hx
    exact ⟨hs, bO_old hs hk⟩
  · rw [List.mem_singleton.1 hq]
    exact .inl ⟨hs, by simp [hl_cons]⟩
  · simp only [app, setM_at] at hx
    split at hx
    · cases hx; exact bO_old (by omega) (by omega)
    · obtain ⟨rfl, rfl⟩ := hl_one hx
      exact bO_old (by omega) (by omega)
  · obtain ⟨K, hK, hat, hFk⟩ := hok.ob s _ hl_at
    match args, hlen with
    | [a], _ =>
      have ha := hr 0 a (.ptr s 0 0) rfl rfl
      cases ha with
      | ptr _ _ _ K' hK' =>
        rw [hK] at hK'
        cases hK'
        have hv : K.vt = false := (hat.real (i := 0) (el := [.sp s T, .owt k m e]) rfl).1
        obtain ⟨cur, ty, fr, g1, ⟨g2, gty⟩, g3, g4, g5, g6, g7⟩ := hat.realV hv
        obtain ⟨_, v0, hv0, hr0⟩ := g7 0 [.sp s T, .owt k m e] 0 (.sp s T) rfl rfl
        obtain ⟨_, v1, hv1, hr1⟩ := g7 0 [.sp s T, .owt k m e] 1 (.owt k m e) rfl rfl
        have hv0 : cur[0]? = some v0 := by simpa using hv0
        have hv1 : cur[1]? = some v1 := by simpa [bO] using hv1
        have hz : 0 * K.sz + 0 = 0 := by omega
        rw [hz]
        have c0 : w.cell? ⟨K.b, 0, none⟩ = some v0 := by rw [cell_at g1]; exact hv0
        have eM : app [(s, some (bO s k m T e))] (hl [(s, bO s k m T e)]) = setM (hl [(s, bO s k m T e)]) s (some (bO s k m T e)) := rfl
        cases hr0 with
        | sp _ _ K2 p hK2 hT hp =>
          rw [hK] at hK2
          cases hK2
          rcases hp with rfl | rfl
          · refine (h1 K.b w c0 (by simp [World.shape?, g1, gty, hT.1, g2, hT.2]) ?_).mono fun e' w' hx => ?_
            · simp only [World.frozen?, g1]
              have := g3 0 (by rw [hT.2]; omega)
              simp only [Bool.and_eq_false_iff, decide_eq_false_iff_not]
              omega
            · obtain ⟨rfl, rfl⟩ := hx
              have hb' : (w.setCell ⟨K.b, 0, none⟩ (.pointer (some ⟨K.b, 0, none⟩))).heap[K.b]? = some (.cells (cur.setIfInBounds 0 (.pointer (some ⟨K.b, 0, none⟩))) ty fr) := by
                show (w.heap.modify K.b _)[K.b]? = _
                rw [Array.getElem?_modify, if_pos rfl, g1]
                rfl
              refine ⟨_, F, ν, rfl, ?_, Fz.le_refl _, fun _ _ => rfl, .tup [] [] rfl (fun j v u h => by simp at h)⟩
              rw [eM]
              refine hok.world (w' := w.setCell ⟨K.b, 0, none⟩ (.pointer (some ⟨K.b, 0, none⟩))) rfl rfl rfl (by show _ ≤ (w.heap.modify K.b _).size; simp) hl_at hK hv (fun b hb hne => ?_) (.inl ⟨hv, _, ty, fr, hb', ⟨by simp [g2], gty⟩, g3, g4, g5, g6, fun i el j u hi hj => ?_⟩)
              · show (w.heap.modify K.b _)[b]? = _
                rw [Array.getElem?_modify, if_neg (Ne.symm hne)]
              · obtain ⟨hc, v, hv', hr'⟩ := g7 i el j u hi hj
                cases i with
                | succ i => simp [bO] at hi
                | zero =>
                  have hi : el = [.sp s T, .owt k m e] := by simpa [bO] using hi.symm
                  subst hi
                  have hsz0 : 0 < cur.size := (Array.getElem?_eq_some_iff.1 hv0).1
                  cases j with
                  | zero =>
                    have hj : u = .sp s T := by simpa using hj.symm
                    subst hj
                    exact ⟨rfl, _, by simp [hsz0], .sp s T K _ hK hT (.inr rfl)⟩
                  | succ j =>
                    refine ⟨hc, v, ?_, hr'⟩
                    rw [Array.getElem?_setIfInBounds, if_neg (by omega)]
                    exact hv'
          · refine (h0 K.b w c0).mono fun e' w' hx => ?_
            obtain ⟨rfl, rfl⟩ := hx
            refine ⟨_, F, ν, rfl, ?_, Fz.le_refl _, fun _ _ => rfl, .tup [] [] rfl (fun j v u h => by simp at h)⟩
            rw [eM]
            exact hok.world rfl rfl rfl (Nat.le_refl _) hl_at hK hv (fun _ _ _ => rfl) hat
theorem subB {M : Hp} {a a' b b' : Ob} {j : Nat} (h0 : M 0 = some a) (hj : M j = some b) : Sub (app [(0, some a), (1, none), (j, some b)] (hl [(0, a'), (1, b')])) M := fun x o hx => by
  simp only [app, setM_at] at hx
  split at hx
  · rename_i e; subst e; cases hx; exact hj
  · split at hx
    · cases hx
    · split at hx
      · rename_i e; subst e; cases hx; exact h0
      · rcases hl_two hx with ⟨h1, h2⟩ | ⟨_, h1, h2⟩ <;> contradiction
theorem subR {M : Hp} {a' b' : Ob} : Sub (app [(0, none), (1, none)] (hl [(0, a'), (1, b')])) M := fun x o hx => by
  simp only [app, setM_at] at hx
  split at hx
  · cases hx
  · split at hx
    · cases hx
    · rcases hl_two hx with ⟨h1, h2⟩ | ⟨_, h1, h2⟩ <;> contradiction
theorem fx_bs {P : Program} {f T e : Nat} {us : List V} {u : V} {l : Str} (hus : ∀ x ∈ us, NF x) (hu : NF u)
    (h : FS P f (.ptr 0 0 0 :: us) (hl [(0, bO 0 1 l.length T e), (1, ob l)]) 2 u [(0, none), (1, none)]) {s k n : Nat} (hs : Nat.blt s n = true) (hk : Nat.blt k n = true) (hne : Nat.beq s k = false) :
    Fx P f (.ptr s 0 0 :: us) (hl [(s, bO s k l.length T e), (k, ob l)]) n u [(s, none), (k, none)] := by
  have hs : s < n := by simpa using hs
  have hk : k < n := by simpa using hk
  have hne : s ≠ k := fun e => by subst e; simp at hne
  have es_at : ∀ x o, app [(s, none), (k, none)] (hl [(s, bO s k l.length T e), (k, ob l)]) x = some o → False := fun x o hx => by
    simp only [app, setM_at] at hx
    split at hx
    · cases hx
    · split at hx
      · cases hx
      · rcases hl_two hx with ⟨h1, h2⟩ | ⟨_, h1, h2⟩ <;> contradiction
  refine ⟨fun x hx => ?_, fun x o hx => ?_, fun q hq => ?_, fun x o hx => (es_at x o hx).elim, hu.old _, fun w F ν args hok hn hlen hr => ?_⟩
  · rcases List.mem_cons.1 hx with rfl | hx
    · exact old_ptr hs
    · exact (hus x hx).old n
  · rcases hl_two hx with ⟨rfl, rfl⟩ | ⟨_, rfl, rfl⟩
    · exact ⟨hs, bO_old hs hk⟩
    · exact ⟨hk, nfo_old nfob n⟩
  · simp only [List.mem_cons, List.not_mem_nil, or_false] at hq
    rcases hq with rfl | rfl
    · exact .inl ⟨hs, by simp [hl_cons]⟩
    · exact .inl ⟨hk, by simp [hl_cons, hne.symm]⟩
  · let ρ : Nat → Nat := fun y => if y = 0 then s else k
    let νc : Nu := fun y => if y = 0 then ν s else if y = 1 then ν k else none
    let Mc : Hp := hl [(0, bO 0 1 l.length T e), (1, ob l)]
    have c0 : νc 0 = ν s := rfl
    have c1 : νc 1 = ν k := rfl
    have hDD : ∀ b, own0 ν (hl [(s, bO s k l.length T e), (k, ob l)]) b ↔ own0 νc Mc b := fun b => by
      constructor
      · rintro ⟨x, o, kb, h1, h2, h3, h4⟩
        rcases hl_two h1 with ⟨rfl, rfl⟩ | ⟨_, rfl, rfl⟩
        · exact ⟨0, _, kb, by simp [Mc, hl_cons]; rfl, h2, h3, h4⟩
        · exact ⟨1, _, kb, by simp [Mc, hl_cons]; rfl, h2, h3, h4⟩
      · rintro ⟨x, o, kb, h1, h2, h3, h4⟩
        rcases hl_two h1 with ⟨rfl, rfl⟩ | ⟨_, rfl, rfl⟩
        · exact ⟨s, _, kb, by simp [hl_cons]; rfl, h2, h3, h4⟩
        · exact ⟨k, _, kb, by simp [hl_cons, hne.symm]; rfl, h2, h3, h4⟩
    have okc : Ok ⟨w, F, own0 νc Mc⟩ F νc Mc w := hok.rename hDD ρ (fun x o hx => by
      rcases hl_two hx with ⟨rfl, rfl⟩ | ⟨_, rfl, rfl⟩
      · refine ⟨bO s k l.length T e, by simp [ρ, hl_cons], rfl, rfl, by simp [bO, ren, ρ], fun el hel u hu y hy => ?_⟩
        simp only [bO, List.mem_singleton] at hel
        subst hel
        simp only [List.mem_cons, List.not_mem_nil, or_false] at hu
        rcases hu with rfl | rfl <;> cases hy
        · rfl
        · rfl
      · refine ⟨ob l, by simp [ρ, hl_cons, hne.symm], rfl, rfl, ?_, fun el hel u hu y hy => absurd hy (nfob el hel u hu y)⟩
        simp only [ob, List.map_map]
        refine List.map_congr_left fun a _ => ?_
        rfl) (fun x y o o' hx hy h => by
      rcases hl_two hx with ⟨rfl, _⟩ | ⟨_, rfl, _⟩ <;> rcases hl_two hy with ⟨rfl, _⟩ | ⟨_, rfl, _⟩ <;> simp [ρ] at h ⊢
      · exact hne h
      · exact hne h.symm)
    refine (h w F νc args okc (fun y hy => by show (if y = 0 then _ else if y = 1 then _ else _) = _; rw [if_neg (by omega), if_neg (by omega)]) (by simpa using hlen) (fun j v u hv hu => ?_)).mono fun e' w' hx => ?_
    · cases j with
      | zero =>
        simp at hu
        subst hu
        exact (hr 0 v (.ptr s 0 0) hv rfl).unren (ρ := ρ) _ (by simp [ren, ρ]) fun y hy => by cases hy; rfl
      | succ j =>
        have hu' : us[j]? = some u := by simpa using hu
        exact (hr (j + 1) v u hv (by simpa using hu')).nf (hus u (List.mem_of_getElem? hu'))
    · obtain ⟨v, F', ν', rfl, ok', hF, hold, hrel⟩ := hx
      exact ⟨v, F', ν, rfl, Ok.rename ok' (fun b => (hDD b).symm) (fun x => x) (fun x o hx => (es_at x o hx).elim) (fun x y o o' hx => (es_at x o hx).elim), hF, fun _ _ => rfl, hrel.nf hu⟩
theorem lenO_le {l : Str} {u : Unit} (h : lenO l = some u) : Nat.ble l.length 9223372036854775807 = true := by
  obtain ⟨h1, _⟩ := okO_inv h
  simpa using h1
end Go.Ka
