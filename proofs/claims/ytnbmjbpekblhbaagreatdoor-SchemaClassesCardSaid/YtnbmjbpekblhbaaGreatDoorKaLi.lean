/- What the library's contracts leave, as the walk's states. -/
import Derived.Test.YtnbmjbpekblhbaaGreatDoorKaZ
import Derived.Test.YtnbmjbpekblhbaaGreatDoorKaLp
import Derived.Sort.EncStr
import Derived.Sort.Grow
set_option linter.all false
namespace Go.Ka
open Go.RowKit Go.Sort Go.Proofs
variable [Tab]

theorem blk_putRow {w : World} {blk : Nat} {cur : Array Value} {ty : TypeId} {fr : Nat × Nat} (h : w.heap[blk]? = some (.cells cur ty fr)) (l : List Str) (n : Nat) (os : Array Obj) :
    (grow (putRow encStr (Sort.ahead w n) blk 0 l.toArray) os).heap[blk]? = some (.cells (putCells encStr 0 l.toArray cur) ty fr) := by
  have hb := lt_of_some h
  show ((putRow encStr (Sort.ahead w n) blk 0 l.toArray).heap ++ os)[blk]? = _
  rw [Array.getElem?_append_left (by simpa using hb)]
  show ((w.heap).modify blk _)[blk]? = _
  rw [Array.getElem?_modify, if_pos rfl, h]
  rfl
theorem blk_other {w : World} {blk b : Nat} (l : List Str) (n : Nat) (os : Array Obj) (hb : b < w.heap.size) (hn : b ≠ blk) :
    (grow (putRow encStr (Sort.ahead w n) blk 0 l.toArray) os).heap[b]? = w.heap[b]? := by
  show ((putRow encStr (Sort.ahead w n) blk 0 l.toArray).heap ++ os)[b]? = _
  rw [Array.getElem?_append_left (by simpa using hb)]
  show ((w.heap).modify blk _)[b]? = _
  rw [Array.getElem?_modify, if_neg (Ne.symm hn)]
theorem putCells_get (l : List Str) (cur : Array Value) (hc : l.length ≤ cur.size) {i : Nat} {s : Str} (hi : l[i]? = some s) : (putCells encStr 0 l.toArray cur)[i]? = some (str s) := by
  have hlt := (List.getElem?_eq_some_iff.1 hi).1
  have hs := (List.getElem?_eq_some_iff.1 hi).2
  simp only [putCells, Array.getElem?_mapIdx]
  rw [Array.getElem?_eq_getElem (show i < cur.size by omega)]
  simp [hlt, str]
  rw [← hs]
theorem ob_at {l : List Str} {i : Nat} {el : List V} (h : (ob l).els[i]? = some el) : ∃ s, l[i]? = some s ∧ el = [tx s] := by
  simp only [ob, List.getElem?_map] at h
  cases hs : l[i]? with
  | none => simp [hs] at h
  | some s => simp [hs] at h; exact ⟨s, rfl, h.symm⟩

/-- A row of texts, laid anew. -/
theorem obAt_putRow {F : Fz} {ν : Nu} {w : World} {k : Blk} {l l' : List Str} (h : RealAt F ν w (ob l) k) (hl : l'.length = l.length) (n : Nat) (os : Array Obj) (hv : k.vt = false) :
    ObAt F ν (grow (putRow encStr (Sort.ahead w n) k.b 0 l'.toArray) os) (ob l') k := by
  obtain ⟨cur, ty, fr, h1, ⟨h2, gty⟩, h3, h4, h5, h6, h7⟩ := h
  have hs : (ob l).sz = 1 := rfl
  have hfit : l.length ≤ cur.size := by
    rw [h2]
    have : (ob l).els.length = l.length := by simp [ob]
    rw [this, hs] at h6
    omega
  refine .inl ⟨hv, _, ty, fr, blk_putRow h1 l' n os, ⟨by simp [putCells, h2], gty⟩, h3, h4, fun i el he => ?_, ?_, fun i el j u he hj => ?_⟩
  · obtain ⟨s, _, rfl⟩ := ob_at he; rfl
  · have e1 : (ob l').els.length = l.length := by simp [ob, hl]
    have e2 : (ob l).els.length = l.length := by simp [ob]
    have e3 : (ob l').sz = (ob l).sz := rfl
    rw [e1, e3, ← e2]; exact h6
  · obtain ⟨s, hs', rfl⟩ := ob_at he
    cases j with
    | zero =>
      simp at hj
      subst hj
      refine ⟨rfl, str s, ?_, .val _ rfl⟩
      have : i * (ob l').sz + 0 = i := by show i * 1 + 0 = i; omega
      rw [this]
      exact putCells_get l' cur (by omega) hs'
    | succ j => simp at hj
theorem holds_real {F : Fz} {ν : Nu} {w : World} {k : Blk} {l : List Str} (h : RealAt F ν w (ob l) k) : Holds encStr w k.b 0 l.toArray := by
  obtain ⟨cur, ty, fr, h1, ⟨h2, gty⟩, h3, h4, h5, h6, h7⟩ := h
  intro j hj
  have hj' : j < l.length := by simpa using hj
  have e1 : (ob l).els.length = l.length := by simp [ob]
  have e3 : (ob l).sz = 1 := rfl
  obtain ⟨_, v, hv, hr⟩ := h7 j [tx l[j]] 0 (tx l[j]) (by simp [ob, hj']; rfl) rfl
  rw [e3, show j * 1 + 0 = 0 + j by omega] at hv
  have e := rel_val hr
  subst e
  refine ⟨?_, ?_⟩
  · rw [cell_at h1, hv]; simp [hj', str]
  · have hc : 0 + j < k.cap := by rw [e1, e3] at h6; omega
    have := h3 (0 + j) hc
    simp only [World.frozen?, h1]
    simp only [Bool.and_eq_false_iff, decide_eq_false_iff_not]
    omega
theorem Ok.worldV {B : Gd} {F : Fz} {ν : Nu} {M : Hp} {w : World} (h : Ok B F ν M w) {w' : World} (h1 : w'.os = w.os) (h2 : w'.tape = w.tape) (h3 : w'.output = w.output) (h4 : w.heap.size ≤ w'.heap.size)
    {id : Nat} {o o' : Ob} {k : Blk} (hm : M id = some o) (hk : ν id = some k) (hv : k.vt = true) (h5 : ∀ b, b < w.heap.size → w'.heap[b]? = w.heap[b]?) (h6 : ObAt F ν w' o' k) : Ok B F ν (setM M id (some o')) w' := by
  have g := h.on h1 h2 h3 h4 h5
  refine ⟨g.fz, fun x q hx => ?_, fun x y q r k1 k2 a b hne c d v1 v2 => ?_, g.below, fun x q k1 a b v1 => ?_, g.tab, g.ice⟩
  · by_cases e : x = id
    · subst e
      rw [setM_same] at hx
      cases hx
      exact ⟨k, hk, h6, fun h => by rw [hv] at h; cases h⟩
    · rw [setM_ne e] at hx
      exact g.ob x q hx
  · have hx : x ≠ id := fun e => by subst e; rw [hk] at c; cases c; rw [hv] at v1; cases v1
    have hy : y ≠ id := fun e => by subst e; rw [hk] at d; cases d; rw [hv] at v2; cases v2
    rw [setM_ne hx] at a
    rw [setM_ne hy] at b
    exact g.inj x y q r k1 k2 a b hne c d v1 v2
  · have hx : x ≠ id := fun e => by subst e; rw [hk] at b; cases b; rw [hv] at v1; cases v1
    rw [setM_ne hx] at a
    exact g.live x q k1 a b v1
theorem old_own {n id a k : Nat} (h : id < n) : Old n (.own id a k) := fun y hy => by cases hy; exact h
theorem hl_one {id x : Nat} {o o' : Ob} (h : hl [(id, o)] x = some o') : x = id ∧ o' = o := by
  rw [hl_cons] at h
  split at h
  · rename_i e; cases h; exact ⟨e, rfl⟩
  · cases h
theorem hl_at {id : Nat} {o : Ob} : hl [(id, o)] id = some o := by rw [hl_cons, if_pos rfl]
theorem fx_one {P : Program} {f id n : Nat} {o o' : Ob} {us : List V} {u : V} (hus : ∀ x ∈ us, Old n x) (hid : id < n) (ho : NFO o) (ho' : NFO o') (hu : Old (n + 1) u)
    (run : ∀ w F ν k (args : List Value), Ok ⟨w, F, own0 ν (hl [(id, o)])⟩ F ν (hl [(id, o)]) w → ν id = some k → ObAt F ν w o k → args.length = us.length → (∀ (j : Nat) (v : Value) (u : V), args[j]? = some v → us[j]? = some u → Rel F ν v u) →
      Calls P f args.toArray w fun e w' => ∃ v, e = .returned v ∧ w'.os = w.os ∧ w'.tape = w.tape ∧ w'.output = w.output ∧ w.heap.size ≤ w'.heap.size ∧ (∀ b, b < w.heap.size → (k.vt = false → b ≠ k.b) → w'.heap[b]? = w.heap[b]?) ∧ ObAt F ν w' o' k ∧ Rel F ν v u) :
    Fx P f us (hl [(id, o)]) n u [(id, some o')] := by
  refine ⟨hus, fun x q hx => ?_, fun e he => ?_, fun x q hx => ?_, hu, fun w F ν args hok hn hl1 hr => ?_⟩
  · obtain ⟨rfl, rfl⟩ := hl_one hx
    exact ⟨hid, fun el hel u hu => (ho el hel u hu).old _⟩
  · simp only [List.mem_singleton] at he
    subst he
    exact .inl ⟨hid, by rw [hl_at]; rfl⟩
  · simp only [app, setM_at] at hx
    split at hx
    · cases hx; exact fun el hel u hu => (ho' el hel u hu).old _
    · obtain ⟨rfl, rfl⟩ := hl_one hx
      exact fun el hel u hu => (ho el hel u hu).old _
  · obtain ⟨k, hk, hat, _⟩ := hok.ob id o hl_at
    refine (run w F ν k args hok hk hat hl1 hr).mono fun e w' hx => ?_
    obtain ⟨v, rfl, h1, h2, h3, h4, h5, h6, h7⟩ := hx
    refine ⟨v, F, ν, rfl, ?_, Fz.le_refl _, fun _ _ => rfl, h7⟩
    show Ok _ F ν (setM _ id (some o')) w'
    cases hv : k.vt with
    | false => exact hok.world h1 h2 h3 h4 hl_at hk hv (fun b hb hn => h5 b hb fun _ => hn) h6
    | true => exact hok.worldV h1 h2 h3 h4 hl_at hk hv (fun b hb => h5 b hb fun h => by rw [hv] at h; cases h) h6
theorem own_arg {F : Fz} {ν : Nu} {id n : Nat} {args : List Value} {us : List V} (hl : args.length = us.length) (hr : ∀ (j : Nat) (v : Value) (u : V), args[j]? = some v → us[j]? = some u → Rel F ν v u) (he : us = [.own id 0 n]) :
    ∃ A c k, args = [.slice A n c] ∧ ν id = some k ∧ n ≤ c ∧ c ≤ maxLen ∧ (c ≠ 0 → A = some ⟨k.b, 0, none⟩ ∧ c * k.sz ≤ k.cap) ∧ (A = none ∨ ∃ off, A = some ⟨k.b, off, none⟩ ∧ k.vt = false) := by
  subst he
  match args, hl with
  | [a], _ =>
    have := hr 0 a (.own id 0 n) rfl rfl
    cases this with
    | own _ _ _ c A k hk hc hm hA hB => exact ⟨A, c, k, rfl, hk, hc, hm, fun h => by simpa using hA h, hB⟩
theorem sort_fx {P : Program} {f : Nat} (h0 : ∀ (p : Option Addr) (cap : Nat) (w : World), Calls P f #[.slice p 0 cap] w fun e w' => e = .returned (.tuple #[]) ∧ w' = w)
    (h1 : ∀ (blk off cap : Nat) (ss : List (List UInt8)) (w : World), Holds encStr w blk off ss.toArray → blk < w.heap.size → ss.length < 4611686018427387904 → Calls P f #[.slice (some ⟨blk, off, none⟩) ss.length cap] w fun e w' =>
      e = .returned (.tuple #[]) ∧ ∃ n os, w' = grow (putRow encStr (Sort.ahead w n) blk off (ss.mergeSort fun x y => decide (x ≤ y)).toArray) os)
    {l : List Str} {u : Unit} (h : s_sortS l = some u) {id n : Nat} (hid : id < n) : Fx P f [.own id 0 l.length] (hl [(id, ob l)]) n (.tup []) [(id, some (ob (sortL l)))] := by
  obtain ⟨hb, _⟩ := okO_inv h
  have hb : l.length < 4611686018427387904 := by simpa using hb
  refine fx_one (fun x hx => by rw [List.mem_singleton.1 hx]; exact old_own hid) hid nfob nfob ((NF.tup nfn).old _) fun w F ν k args hok hk hat hl hr => ?_
  obtain ⟨A, c, k', rfl, hk', hnc, hcm, hA, hB⟩ := own_arg hl hr rfl
  rw [hk] at hk'
  cases hk'
  simp only [← sortL_eq] at h1
  have hlen : (sortL l).length = l.length := sortL_len l
  by_cases hl0 : l = []
  · subst hl0
    refine (h0 A c w).mono fun e w' hx => ?_
    obtain ⟨rfl, rfl⟩ := hx
    have : sortL [] = [] := by simp [sortL]
    exact ⟨_, rfl, rfl, rfl, rfl, Nat.le_refl _, fun _ _ _ => rfl, by rw [this]; exact hat, .tup [] [] rfl (fun j v u h => by simp at h)⟩
  · have hpos : 0 < l.length := List.length_pos_iff.2 hl0
    obtain ⟨rfl, _⟩ := hA (by omega)
    have hv : k.vt = false := by
      obtain ⟨s, r, e⟩ := List.exists_cons_of_ne_nil hl0
      exact (hat.real (i := 0) (el := [tx s]) (by rw [e]; rfl)).1
    have hre := hat.realV hv
    refine (h1 k.b 0 c l w (holds_real hre) (hok.obLt hl_at hk hv) hb).mono fun e w' hx => ?_
    obtain ⟨rfl, q, os, rfl⟩ := hx
    refine ⟨_, rfl, rfl, rfl, rfl, by simp [grow], fun b hb hn => blk_other _ q os hb (hn hv), obAt_putRow hre hlen q os hv, .tup [] [] rfl (fun j v u h => by simp at h)⟩
theorem compact_len (l : List Str) : (Lib.compact l).length ≤ l.length := by
  simp only [Lib.compact, Lib.compactUpTo, List.length_map]
  exact Nat.le_trans (List.length_filter_le _ _) (by simp)
theorem compact_fx {P : Program} {f : Nat} (h0 : ∀ (p : Option Addr) (cap : Nat) (w : World), Calls P f #[.slice p 0 cap] w fun e w' => e = .returned (.slice p 0 cap) ∧ w' = w)
    (h1 : ∀ (blk off cap : Nat) (zs : List (List UInt8)) (w : World), Holds encStr w blk off zs.toArray → zs.length ≤ 9223372036854775807 → zs.length ≤ cap → Calls P f #[.slice (some ⟨blk, off, none⟩) zs.length cap] w fun e w' =>
      e = .returned (.slice (some ⟨blk, off, none⟩) (Lib.compact zs).length cap) ∧ ∃ q, w' = putRow encStr (Sort.ahead w q) blk off (Lib.compact zs ++ List.replicate (zs.length - (Lib.compact zs).length) []).toArray)
    {l l' : List Str} (h : s_compactS l = some l') {id n : Nat} (hid : id < n) : Fx P f [.own id 0 l.length] (hl [(id, ob l)]) n (.own id 0 l'.length) [(id, some (ob (l' ++ List.replicate (l.length - l'.length) [])))] := by
  obtain ⟨hb, rfl⟩ := okO_inv h
  have hb : l.length ≤ 4611686018427387904 := by simpa using hb
  have hcl := compact_len l
  refine fx_one (fun x hx => by rw [List.mem_singleton.1 hx]; exact old_own hid) hid nfob nfob (old_own (by omega)) fun w F ν k args hok hk hat hl hr => ?_
  obtain ⟨A, c, k', rfl, hk', hnc, hcm, hA, hB⟩ := own_arg hl hr rfl
  rw [hk] at hk'
  cases hk'
  by_cases hl0 : l = []
  · subst hl0
    refine (h0 A c w).mono fun e w' hx => ?_
    obtain ⟨rfl, rfl⟩ := hx
    exact ⟨_, rfl, rfl, rfl, rfl, Nat.le_refl _, fun _ _ _ => rfl, hat, .own id 0 0 c A k hk (Nat.zero_le _) hcm (fun h => by simpa using hA h) hB⟩
  · have hpos : 0 < l.length := List.length_pos_iff.2 hl0
    obtain ⟨rfl, hcap⟩ := hA (by omega)
    have hv : k.vt = false := by
      obtain ⟨s, r, e⟩ := List.exists_cons_of_ne_nil hl0
      exact (hat.real (i := 0) (el := [tx s]) (by rw [e]; rfl)).1
    have hre := hat.realV hv
    refine (h1 k.b 0 c l w (holds_real hre) (by omega) hnc).mono fun e w' hx => ?_
    obtain ⟨rfl, q, rfl⟩ := hx
    have e : ∀ (d : List Str), putRow encStr (Sort.ahead w q) k.b 0 d.toArray = grow (putRow encStr (Sort.ahead w q) k.b 0 d.toArray) #[] := fun d => by simp
    rw [e]
    exact ⟨_, rfl, rfl, rfl, rfl, by simp [grow], fun b hb hn => blk_other _ q _ hb (hn hv), obAt_putRow hre (by simp; omega) q _ hv, .own id 0 _ c _ k hk (by omega) hcm (fun h => ⟨by simp, by simpa using hcap⟩) hB⟩
end Go.Ka
