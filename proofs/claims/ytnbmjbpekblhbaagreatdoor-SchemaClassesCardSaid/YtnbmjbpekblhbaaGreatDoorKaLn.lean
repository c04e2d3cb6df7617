/- Rows that the library hands back. -/
import Derived.Test.YtnbmjbpekblhbaaGreatDoorKaLi
import Derived.Lib.OwnBridge
set_option linter.all false
namespace Go.Ka
open Enc (enc)
open Go.RowKit Go.Proofs
variable [Tab]

/-- A row of the call's own, as an object. -/
theorem nw_own {α : Type} [Enc α] {P : Program} {f e : Nat} {us : List V} {l : List α} (hus : ∀ x ∈ us, NF x)
    (h : ∀ w F (args : List Value), (∀ b o v, F b o = some v → w.cell? ⟨b, o, none⟩ = some v) → TabOn w → args.length = us.length → (∀ (j : Nat) (v : Value) (u : V), args[j]? = some v → us[j]? = some u → Rel F ν0 v u) →
      Calls P f args.toArray w fun e' w' => ∃ (v' : Value) (vals : Nat → Nat → Value), e' = .returned v' ∧ w'.ownsRow w.heap.size e (Enc.sz α) v' l.length ((List.range (l.length * Enc.sz α)).map fun i => vals (i / Enc.sz α) (i % Enc.sz α)) ∧ Below w.heap.size w w' ∧
        ∀ (i : Nat) (a : α) (j : Nat) (u : V), l[i]? = some a → (enc a)[j]? = some u → Rel F ν0 (vals i j) u) :
    Nw P f us (fun id => .own id 0 l.length) (ob l) := by
  refine ⟨hus, nfob, 0, fun w F ν args hok hn hl hr => ?_, Fam.own⟩
  have hν : ν = ν0 := by funext x; exact hn x (Nat.zero_le _)
  subst hν
  refine (h w F args hok.fz hok.tabOn hl hr).mono fun e' w' hx => ?_
  obtain ⟨v', vals, rfl, ⟨hlen, hown⟩, hb, hrel⟩ := hx
  have hok' := hok.on hb.os hb.tape hb.output hb.size hb.block
  have e0 : ∀ x, F x = F x := fun _ => rfl
  rcases hown with ⟨rfl, h0⟩ | ⟨g, cap, cur, rfl, hg, hh, hnc, hcm, hcs, htk⟩
  · have hl0 : l = [] := List.length_eq_zero_iff.1 h0
    subst hl0
    obtain ⟨ok2, hle⟩ := hok'.new (id := 0) (o := ob ([] : List α)) (k := ⟨0, Enc.sz α, 0, true, 0⟩) (hn 0 (Nat.le_refl _)) (fun h => by cases h) (fun h => by cases h) (fun h => by cases h) (.inr ⟨rfl, rfl, rfl, rfl⟩)
    exact ⟨_, F, _, rfl, ok2, Fz.le_refl _, fun _ h => absurd h (Nat.not_lt_zero _), .own 0 0 0 0 none ⟨0, Enc.sz α, 0, true, 0⟩ (if_pos rfl) (Nat.le_refl _) (Nat.zero_le _) (fun h => absurd rfl h) (.inl rfl)⟩
  · have hFg : ∀ x, F g x = none := fun x => by
      cases hx : F g x with
      | none => rfl
      | some v => have := hok.lt hx; omega
    have hsz : ∀ (i : Nat) (a : α), l[i]? = some a → (enc a).length = Enc.sz α := fun i a _ => Enc.len a
    have at' : ∀ (i : Nat) (a : α) (j : Nat) (u : V), l[i]? = some a → (enc a)[j]? = some u → cur[i * Enc.sz α + j]? = some (vals i j) := fun i a j u hi hj => by
      have h1 : i < l.length := (List.getElem?_eq_some_iff.1 hi).1
      have h2 : j < Enc.sz α := by rw [← Enc.len a]; exact (List.getElem?_eq_some_iff.1 hj).1
      have h3 : i * Enc.sz α + j < l.length * Enc.sz α := by
        calc i * Enc.sz α + j < i * Enc.sz α + Enc.sz α := by omega
          _ = (i + 1) * Enc.sz α := by rw [Nat.succ_mul]
          _ ≤ l.length * Enc.sz α := Nat.mul_le_mul_right _ h1
      have h4 : (cur.toList.take (l.length * Enc.sz α))[i * Enc.sz α + j]? = some (vals i j) := by
        rw [htk, List.getElem?_map, List.getElem?_range h3]
        have : 0 < Enc.sz α := by omega
        simp only [Option.map_some, Option.some.injEq]
        rw [Nat.mul_comm i, Nat.mul_add_div this, Nat.div_eq_of_lt h2, Nat.mul_add_mod, Nat.mod_eq_of_lt h2, Nat.add_zero]
      rw [List.getElem?_take_of_lt h3] at h4
      simpa using h4
    have hob : ObAt F ν0 w' (ob l) ⟨g, Enc.sz α, cur.size, false, e⟩ := by
      refine .inl ⟨rfl, cur, e, (0, 0), hh, ⟨rfl, rfl⟩, fun x _ => by simp, rfl, fun i el he => ?_, ?_, fun i el j u he hj => ?_⟩
      · simp only [ob, List.getElem?_map] at he
        cases hs : l[i]? with
        | none => simp [hs] at he
        | some a => simp [hs] at he; rw [← he]; exact Enc.len a
      · have : (ob l).els.length = l.length := by simp [ob]
        rw [this]
        show l.length * Enc.sz α ≤ cur.size
        rw [hcs]
        exact Nat.mul_le_mul_right _ hnc
      · simp only [ob, List.getElem?_map] at he
        cases hs : l[i]? with
        | none => simp [hs] at he
        | some a =>
          simp [hs] at he
          subst he
          exact ⟨Enc.cell a u (List.mem_of_getElem? hj), vals i j, at' i a j u hs hj, hrel i a j u hs hj⟩
    obtain ⟨ok2, hle⟩ := hok'.new (id := 0) (o := ob l) (k := ⟨g, Enc.sz α, cur.size, false, e⟩) (hn 0 (Nat.le_refl _)) (fun _ => hFg) (fun _ id' o' k' h => by cases h) (fun _ => .inr hg) hob
    exact ⟨_, F, _, rfl, ok2, Fz.le_refl _, fun _ h => absurd h (Nat.not_lt_zero _), .own 0 0 _ cap _ ⟨g, Enc.sz α, cur.size, false, e⟩ (if_pos rfl) hnc hcm (fun _ => ⟨by simp, by rw [hcs]; simp⟩) (.inr ⟨_, rfl, rfl⟩)⟩

theorem nw_cloneS {P : Program} {f e : Nat} (h0 : ∀ (n c : Nat) (w : World), Calls P f #[.slice none n c] w fun e w' => e = .returned (.slice none 0 0) ∧ w' = w)
    (hz : ∀ (a : Addr) (c : Nat) (w : World), Calls P f #[.slice (some a) 0 c] w fun e' w' => ∃ v', e' = .returned v' ∧ w'.ownsRow w.heap.size e 1 v' 0 [] ∧ v' ≠ .slice none 0 0 ∧ Below w.heap.size w w')
    (h1 : ∀ (b off n c : Nat) (zs : List ByteArray) (w : World), n ≤ zs.length → n * 16 ≤ 140737488355328 → (∀ j, j < zs.length → w.cell? ⟨b, off + j, none⟩ = some (.string (zs.getD j ByteArray.empty))) →
      Calls P f #[.slice (some ⟨b, off, none⟩) n c] w fun e' w' => ∃ v', e' = .returned v' ∧ w'.ownsRow w.heap.size e 1 v' n ((zs.take n).map (Value.string)) ∧ v' ≠ .slice none 0 0 ∧ Below w.heap.size w w')
    {l l' : List Str} (h : s_cloneS l = some l') : Nw P f [ar l] (fun id => .own id 0 l'.length) (ob l') := by
  obtain ⟨hb, rfl⟩ := okO_inv h
  have hb : l.length * 16 ≤ 140737488355328 := by simpa using hb
  refine nw_own (e := e) (nfc (NF.ar l) nfn) fun w F args hF _ hl hr => ?_
  match args, hl with
  | [a], _ =>
    have ha := hr 0 a (ar l) rfl rfl
    have e1 : Enc.sz Str = 1 := rfl
    generalize hels : l.map enc = els at ha
    have ha' : Rel F ν0 a (.arr els) := by rw [← hels]; exact hr 0 a (ar l) rfl rfl
    clear ha
    cases ha' with
    | arr A n c sz _ vals hn hc hm hsz hce hA hr2 =>
      have hn' : l.length = n := by rw [← hn, ← hels]; simp
      let vv : Nat → Nat → Value := fun i _ => str (l.getD i [])
      have hrel : ∀ (i : Nat) (a : Str) (j : Nat) (u : V), l[i]? = some a → (enc a)[j]? = some u → Rel F ν0 (vv i j) u := fun i a j u hi hj => by
        cases j with
        | zero =>
          simp [enc] at hj
          subst hj
          show Rel F ν0 (str (l.getD i [])) (tx a)
          rw [List.getD_eq_getElem?_getD, hi]
          exact .val _ rfl
        | succ j => simp [enc] at hj
      have hrow : ((List.range (l.length * Enc.sz Str)).map fun i => vv (i / Enc.sz Str) (i % Enc.sz Str)) = l.map str := by
        refine List.ext_getElem (by simp [e1]) fun i h1 h2 => ?_
        have : i < l.length := by simpa using h2
        simp [e1, vv, this]
      cases A with
      | none =>
        have hl0 : l = [] := by
          by_cases h : n = 0
          · exact List.length_eq_zero_iff.1 (by omega)
          · obtain ⟨b, o, hA, _⟩ := hA h; cases hA
        refine (h0 n c w).mono fun e' w' hx => ?_
        obtain ⟨rfl, rfl⟩ := hx
        exact ⟨_, vv, rfl, by rw [hrow, hl0]; exact ⟨rfl, .inl ⟨rfl, rfl⟩⟩, below_self _, hrel⟩
      | some a =>
        by_cases h : n = 0
        · subst h
          have hl0 : l = [] := List.length_eq_zero_iff.1 hn'
          refine (hz a c w).mono fun e' w' hx => ?_
          obtain ⟨v', rfl, ho, _, hb⟩ := hx
          exact ⟨v', vv, rfl, by rw [hrow, hl0]; exact ho, hb, hrel⟩
        · obtain ⟨b, o, hA, hcell⟩ := hA h
          cases hA
          refine (h1 b o n c (l.map fun s => ⟨s.toArray⟩) w (by simp [hn']) (by omega) (fun j hj => ?_)).mono fun e' w' hx => ?_
          · have hj : j < l.length := by simpa using hj
            have g1 : els[j]? = some [tx l[j]] := by rw [← hels]; simp [hj]; rfl
            have g2 := hcell j _ 0 _ g1 rfl
            have g3 := hr2 j _ 0 _ g1 rfl
            have : sz = 1 := (hsz j _ g1).symm
            subst this
            rw [show o + j = o + j * 1 + 0 by omega, hF _ _ _ g2, rel_val g3]
            simp [hj, str]
          · obtain ⟨v', rfl, ho, _, hb⟩ := hx
            refine ⟨v', vv, rfl, ?_, hb, hrel⟩
            rw [hrow, hn']
            rw [List.take_of_length_le (by simp [hn']), List.map_map] at ho
            exact ho

theorem nw_fields {P : Program} {f e : Nat} (h1 : ∀ (s : ByteArray) (w : World), TabOn w → s.size < 4294967281 → (∀ (j : Nat) b, s.data.toList[j]? = some b → b.toNat < 128) →
      Calls P f #[.string s] w fun e' w' => e' = .returned (.slice (some ⟨w.heap.size, 0, none⟩) (Lib.fields s.data.toList).length (Lib.fields s.data.toList).length) ∧ w' = w.alloc (.cells ((Lib.fields s.data.toList).map fun l => Value.string ⟨l.toArray⟩).toArray e))
    {s : Str} {l : List Str} (h : s_fields s = some l) : Nw P f [tx s] (fun id => .own id 0 l.length) (ob l) := by
  obtain ⟨hb, rfl⟩ := okO_inv h
  simp only [Bool.and_eq_true, decide_eq_true_eq, List.all_eq_true] at hb
  have hm : (Lib.fields s).length ≤ maxLen := hb.2
  have hb := hb.1
  refine nw_own (e := e) (nfc nfv nfn) fun w F args hF ht hl hr => ?_
  have ea := rel_vals (vs := [str s]) hl hr
  subst ea
  have e1 : Enc.sz Str = 1 := rfl
  let l := Lib.fields s
  let vv : Nat → Nat → Value := fun i _ => str (l.getD i [])
  have hrow : ((List.range (l.length * Enc.sz Str)).map fun i => vv (i / Enc.sz Str) (i % Enc.sz Str)) = l.map str := by
    refine List.ext_getElem (by simp [e1]) fun i h1 h2 => ?_
    have : i < l.length := by simpa using h2
    simp [e1, vv, this]
  refine (h1 ⟨s.toArray⟩ w ht (by simpa [ByteArray.size] using hb.1) (fun j b hj => hb.2 b (List.mem_of_getElem? (by simpa using hj)))).mono fun e' w' hx => ?_
  obtain ⟨rfl, rfl⟩ := hx
  refine ⟨_, vv, rfl, ?_, ?_, fun i a j u hi hj => ?_⟩
  · show World.ownsRow _ _ _ _ _ _ ((List.range (l.length * Enc.sz Str)).map fun i => vv (i / Enc.sz Str) (i % Enc.sz Str))
    rw [hrow]
    refine ⟨by simp [e1, l], .inr ⟨w.heap.size, l.length, (l.map str).toArray, rfl, Nat.le_refl _, ?_, Nat.le_refl _, hm, by simp [e1], ?_⟩⟩
    · show (w.heap.push _)[w.heap.size]? = _
      rw [Array.getElem?_push_size]
      rfl
    · show List.take (l.length * Enc.sz Str) (l.map str).toArray.toList = _
      rw [e1, Nat.mul_one]
      exact List.take_of_length_le (by simp)
  · exact ⟨rfl, rfl, rfl, by show _ ≤ (w.heap.push _).size; simp, fun b hb => by show (w.heap.push _)[b]? = _; rw [Array.getElem?_push_lt hb]; simp [hb]⟩
  · cases j with
    | zero =>
      simp [enc] at hj
      subst hj
      show Rel F ν0 (str (l.getD i [])) (tx a)
      rw [List.getD_eq_getElem?_getD, hi]
      exact .val _ rfl
    | succ j => simp [enc] at hj
/-- A list that is handed back, as one that nobody writes. -/
theorem Nw.pu {α : Type} [Enc α] {P : Program} {f : Nat} {us : List V} {l : List α} (h : Nw P f us (fun id => .own id 0 l.length) (ob l)) : Pu P f us (ar l) := by
  obtain ⟨j, run, _⟩ := h.run
  refine ⟨h.hus, NF.ar l, fun w F ν args hok hnx hl hr => (run w F ν args hok hnx hl hr).mono fun e w' hx => ?_⟩
  obtain ⟨v, F', ν', rfl, ok', hF, hold, hrel⟩ := hx
  have hm : app [(j, some (ob l))] M0 j = some (ob l) := by simp [app, setM_at]
  obtain ⟨k, hk, hat, hFk⟩ := ok'.ob j _ hm
  obtain ⟨F2, hic, ok2⟩ := hat.cellF hFk (ok'.drop j) (i := j) hk (fun hv id' o' k' a => by
    simp only [app, setM_at] at a
    split at a
    · cases a
    · cases a) (fun hv => ok'.live _ _ _ hm hk hv)
  refine ⟨v, F2, ν', rfl, ?_, Fz.le_trans hF hic.le, hold, (fzO (i := j) (l := l)) _ _ _ _ hic hrel⟩
  exact ok2.sub fun x o hx => by cases hx
/-- What is handed back, as a value of which nobody writes. -/
theorem Nw.puF {P : Program} {f : Nat} {us : List V} {u : Nat → V} {u' : V} {o : Ob} (h : Nw P f us u o) (hf : ∀ j, Fz2 j o (u j) u') (hu : NF u') : Pu P f us u' := by
  obtain ⟨j, run, _⟩ := h.run
  refine ⟨h.hus, hu, fun w F ν args hok hnx hl hr => (run w F ν args hok hnx hl hr).mono fun e w' hx => ?_⟩
  obtain ⟨v, F', ν', rfl, ok', hF, hold, hrel⟩ := hx
  have hm : app [(j, some o)] M0 j = some o := by simp [app, setM_at]
  obtain ⟨k, hk, hat, hFk⟩ := ok'.ob j _ hm
  obtain ⟨F2, hic, ok2⟩ := hat.cellF hFk (ok'.drop j) (i := j) hk (fun hv id' o' k' a => by
    simp only [app, setM_at] at a
    split at a
    · cases a
    · cases a) (fun hv => ok'.live _ _ _ hm hk hv)
  refine ⟨v, F2, ν', rfl, ?_, Fz.le_trans hF hic.le, hold, hf j _ _ _ _ hic hrel⟩
  exact ok2.sub fun x o hx => by cases hx
end Go.Ka
