/- Operations, the sixth part: what a slice holds, as a list; slices that are built; append; bytes as a text. -/
import Derived.Test.YtnbmjbpekblhbaaGreatDoorKaOps5
set_option linter.all false
namespace Go.Ka
open Go.RowKit
variable [Tab]

def vels (M : Hp) (sz : Nat) : V → Option (List (List V))
  | .arr els => if ∀ el ∈ els, el.length = sz then some els else none
  | .own id a n => (M id).bind fun o => if o.sz = sz ∧ a + n ≤ o.els.length then some ((o.els.drop a).take n) else none
  | .val (.slice none 0 0) => some []
  | _ => none

theorem Ok.element {B : Gd} {F : Fz} {ν : Nu} {M : Hp} {w : World} (_hok : Ok B F ν M w) {sz b o : Nat} {els : List (List V)} (hl : ∀ el ∈ els, el.length = sz)
    (hc : ∀ (i : Nat) (el : List V) (j : Nat) (u : V), els[i]? = some el → el[j]? = some u → u.cell = true ∧ ∃ v, w.cell? ⟨b, o + (i * sz + j), none⟩ = some v ∧ Rel F ν v u) :
    ∃ news : List Value, news.length = els.length * sz ∧ RL F ν news els.flatten ∧ ∀ (j : Nat) (y : Value), news[j]? = some y → w.cell? ⟨b, o + j, none⟩ = some y := by
  have hfl := flat_len els sz hl
  have hat : ∀ q, q < els.length * sz → ∃ u v, els.flatten[q]? = some u ∧ u.cell = true ∧ w.cell? ⟨b, o + q, none⟩ = some v ∧ Rel F ν v u := by
    intro q hq
    have hsz : 0 < sz := by
      rcases Nat.eq_zero_or_pos sz with h | h
      · rw [h] at hq; simp at hq
      · exact h
    have hi : q / sz < els.length := Nat.div_lt_of_lt_mul (by rw [Nat.mul_comm]; exact hq)
    have hj : q % sz < sz := Nat.mod_lt _ hsz
    have he : els[q / sz]? = some els[q / sz] := List.getElem?_eq_getElem hi
    have hel : els[q / sz].length = sz := hl _ (List.getElem_mem hi)
    have hu : els[q / sz][q % sz]? = some els[q / sz][q % sz] := List.getElem?_eq_getElem (by omega)
    have hq' : q / sz * sz + q % sz = q := Nat.div_add_mod' q sz
    obtain ⟨h1, v, h2, h3⟩ := hc _ _ _ _ he hu
    have h4 := flat_at els sz (fun i el h => hl el (List.mem_of_getElem? h)) _ _ _ _ he hu
    rw [hq'] at h2 h4
    exact ⟨_, v, h4, h1, h2, h3⟩
  refine ⟨(List.range (els.length * sz)).map fun q => (w.cell? ⟨b, o + q, none⟩).getD undef, by simp, ⟨by simp [hfl], fun q x hx => ?_, fun q y x hy hx => ?_⟩, fun q y hy => ?_⟩
  · have hq : q < els.length * sz := by rw [← hfl]; exact (List.getElem?_eq_some_iff.1 hx).1
    obtain ⟨u, v, h1, h2, _⟩ := hat q hq
    rw [hx] at h1
    cases h1
    exact h2
  · have hq : q < els.length * sz := by rw [← hfl]; exact (List.getElem?_eq_some_iff.1 hx).1
    obtain ⟨u, v, h1, h2, h3, h4⟩ := hat q hq
    rw [hx] at h1
    cases h1
    rw [List.getElem?_map, List.getElem?_range hq] at hy
    simp [h3] at hy
    subst hy
    exact h4
  · have hq : q < els.length * sz := by have := (List.getElem?_eq_some_iff.1 hy).1; simpa using this
    obtain ⟨u, v, h1, h2, h3, h4⟩ := hat q hq
    rw [List.getElem?_map, List.getElem?_range hq] at hy
    simp [h3] at hy
    subst hy
    exact h3

theorem vels_src {B : Gd} {F : Fz} {ν : Nu} {M : Hp} {w : World} (hok : Ok B F ν M w) {sz : Nat} {v : Value} {u : V} (hr : Rel F ν v u) {els : List (List V)} (h : vels M sz u = some els) :
    (∀ el ∈ els, el.length = sz) ∧ ∃ A c, ∃ news : List Value, v = .slice A els.length c ∧ els.length ≤ c ∧ c ≤ maxLen ∧ news.length = els.length * sz ∧ RL F ν news els.flatten ∧
      ((∃ b o, A = some ⟨b, o, none⟩ ∧ ∀ (j : Nat) (y : Value), news[j]? = some y → w.cell? ⟨b, o + j, none⟩ = some y) ∨ els = []) := by
  cases hr with
  | arr A n c sz0 els' vals hn hc hm hsz hce hA hr' =>
    simp only [vels] at h
    split at h
    · rename_i hl
      simp only [Option.some.injEq] at h
      subst h
      refine ⟨hl, ?_⟩
      subst hn
      cases els' with
      | nil => exact ⟨A, c, [], rfl, hc, hm, by simp, ⟨rfl, fun j x hx => by simp at hx, fun j y x hy => by simp at hy⟩, .inr rfl⟩
      | cons e0 r =>
        obtain ⟨b, o, rfl, hf⟩ := hA (by simp)
        have hsz0 : sz0 = sz := (hsz 0 e0 rfl).symm.trans (hl e0 (by simp))
        subst hsz0
        obtain ⟨news, h1, h2, h3⟩ := hok.element (b := b) (o := o) hl (fun i el j u hi hj => ⟨hce _ _ _ _ hi hj, _, by rw [← Nat.add_assoc]; exact hok.fz _ _ _ (hf _ _ _ _ hi hj), hr' _ _ _ _ hi hj⟩)
        exact ⟨_, c, news, rfl, hc, hm, h1, h2, .inl ⟨b, o, rfl, h3⟩⟩
    · cases h
  | own id a n c A k hk hc hm hA hB =>
    simp only [vels] at h
    cases hM : M id with
    | none => simp [hM] at h
    | some ob =>
      simp only [hM, Option.bind_some] at h
      split at h
      · rename_i hl
        obtain ⟨rfl, hle⟩ := hl
        simp only [Option.some.injEq] at h
        subst h
        have hat := (hok.at hM hk).1
        have g4 := hat.szEq
        have g5 := hat.lens
        have hsub : ∀ (i : Nat) (el : List V), ((ob.els.drop a).take n)[i]? = some el → ob.els[a + i]? = some el := by
          intro i el hi
          rw [List.getElem?_take] at hi
          split at hi
          · rw [List.getElem?_drop] at hi
            exact hi
          · cases hi
        have hlen : ((ob.els.drop a).take n).length = n := by simp; omega
        have hl : ∀ el ∈ (ob.els.drop a).take n, el.length = ob.sz := fun el hel => by
          obtain ⟨i, hi⟩ := List.mem_iff_getElem?.1 hel
          exact g5 _ _ (hsub _ _ hi)
        refine ⟨hl, ?_⟩
        rw [hlen]
        by_cases h0 : n = 0
        · subst h0
          exact ⟨A, c, [], rfl, hc, hm, by simp, by simp [RL], .inr (by simp)⟩
        · obtain ⟨rfl, _⟩ := hA (by omega)
          obtain ⟨news, h1, h2, h3⟩ := hok.element (b := k.b) (o := a * k.sz) hl (fun i el j u hi hj => by
            obtain ⟨hx, y, hy, hry⟩ := hat.els _ _ _ _ (hsub _ _ hi) hj
            refine ⟨hx, y, ?_, hry⟩
            rw [g4, ← Nat.add_assoc, ← Nat.add_mul]
            exact hy)
          rw [hlen] at h1
          exact ⟨_, c, news, rfl, hc, hm, h1, h2, .inl ⟨_, _, rfl, h3⟩⟩
      · cases h
  | val v' hv =>
    unfold vels at h
    split at h
    · rename_i e; cases e
    · rename_i e; cases e
    · rename_i e
      injection e with e
      subst e
      simp only [Option.some.injEq] at h
      subst h
      exact ⟨by simp, none, 0, [], rfl, Nat.le_refl _, by unfold maxLen; omega, by simp, ⟨rfl, fun j x hx => by simp at hx, fun j y x hy => by simp at hy⟩, .inr rfl⟩
    · cases h
  | _ => simp [vels] at h

/-- The cells that an append or a copy reads. -/
theorem first_run {P : Program} {w : World} {sz n c : Nat} {A : Option Addr} {news : List Value} (hl : news.length = n * sz)
    (h : (∃ b o, A = some ⟨b, o, none⟩ ∧ ∀ (j : Nat) (y : Value), news[j]? = some y → w.cell? ⟨b, o + j, none⟩ = some y) ∨ n = 0) : (Builtin.firstCells sz n (.slice A n c)).run P w = .ok news.toArray w := by
  rcases h with ⟨b, o, rfl, hc⟩ | rfl
  · exact run_firstCells_some w sz n ⟨b, o, none⟩ n c news hl (fun j v hj => by rw [Addr.add_lit]; exact hc j v hj)
  · have : news = [] := by
      rw [Nat.zero_mul] at hl
      exact List.eq_nil_of_length_eq_zero hl
    subst this
    cases A with
    | none => simp [Builtin.firstCells]
    | some a => exact run_firstCells_some w sz 0 a 0 c [] (by simp) (fun j v hj => by simp at hj)

theorem els_of_nil {els : List (List V)} (h : els = []) : els.length = 0 := by rw [h]; rfl

def bytOf (P : Program) (t : Nat) : Option Nat := (P.info? t).map (·.bytes)

theorem RL.append {F : Fz} {ν : Nu} {vs us : List Value} {cs ds : List V} (h : RL F ν vs cs) (h' : RL F ν us ds) : RL F ν (vs ++ us) (cs ++ ds) := by
  obtain ⟨h1, h2, h3⟩ := h
  obtain ⟨g1, g2, g3⟩ := h'
  refine ⟨by simp [h1, g1], fun j x hj => ?_, fun j y x hy hx => ?_⟩
  · rw [List.getElem?_append] at hj
    split at hj
    · exact h2 _ _ hj
    · exact g2 _ _ hj
  · rw [List.getElem?_append] at hy hx
    rw [h1] at hy
    split at hx
    · rename_i hc
      rw [if_pos hc] at hy
      exact h3 _ _ _ hy hx
    · rename_i hc
      rw [if_neg hc] at hy
      exact g3 _ _ _ hy hx

theorem RL.mono {F F' : Fz} {ν ν' : Nu} (hF : Fz.le F F') (hN : Nu.le ν ν') {vs : List Value} {cs : List V} (h : RL F ν vs cs) : RL F' ν' vs cs :=
  ⟨h.1, h.2.1, fun j y x a b => (h.2.2 j y x a b).mono hF hN⟩

/-- A block's cells read as elements. -/
theorem RL.elements {F : Fz} {ν : Nu} {vs rest : List Value} {els : List (List V)} {sz : Nat} (h : RL F ν vs els.flatten) (hl : ∀ el ∈ els, el.length = sz) {cur : Array Value} (hc : cur.toList = vs ++ rest) :
    els.length * sz ≤ cur.size ∧ ∀ (i : Nat) (el : List V) (j : Nat) (u : V), els[i]? = some el → el[j]? = some u → u.cell = true ∧ ∃ v, cur[i * sz + j]? = some v ∧ Rel F ν v u := by
  have hfl := flat_len els sz hl
  refine ⟨by rw [← Array.length_toList, hc, List.length_append, h.1, hfl]; omega, fun i el j u hi hj => ?_⟩
  have hu := flat_at els sz (fun i el h => hl el (List.mem_of_getElem? h)) i j el u hi hj
  obtain ⟨y, hy⟩ := get_of_length h.1 hu
  have hlt := (List.getElem?_eq_some_iff.1 hy).1
  exact ⟨h.2.1 _ _ hu, y, by rw [← Array.getElem?_toList, hc, List.getElem?_append_left hlt, hy], h.2.2 _ _ _ hy hu⟩

theorem RL.one {F : Fz} {ν : Nu} {vs : List Value} {cs : List V} (h : RL F ν vs cs) : ∀ v ∈ vs, v.oneCell' = true := fun v hv => by
  obtain ⟨q, hq⟩ := List.mem_iff_getElem?.1 hv
  obtain ⟨x', hx'⟩ := get_of_length h.1.symm hq
  exact (h.2.2 _ _ _ hq hx').oneCell (h.2.1 _ _ hx')

theorem append_room {P : Program} {w : World} {t t2 e e2 ty sz n m c c2 : Nat} {A A2 : Option Addr} {news : List Value} (ht : elOf P t = some e) (ht2 : elOf P t2 = some e2) (hs : szOf P e = some sz) (hl : news.length = m * sz)
    (hsrc : (∃ b o, A2 = some ⟨b, o, none⟩ ∧ ∀ (j : Nat) (y : Value), news[j]? = some y → w.cell? ⟨b, o + j, none⟩ = some y) ∨ m = 0) (hroom : n + m ≤ c) (b o : Nat) (hA : A = some ⟨b, o, none⟩ ∨ news = []) {w' : World} (hst : (storeCells ⟨b, o + n * sz, none⟩ news).run P w = .ok () w') :
    (Builtin.append_ #[t, t2] ty #[.slice A n c, .slice A2 m c2]).run P w = .ok (.slice A (n + m) c) w' := by
  have hf := first_run (P := P) (c := c2) hl hsrc
  rcases hA with rfl | rfl
  · simp [Builtin.append_, run_underlying (elOf_und ht), run_underlying (elOf_und ht2), szOf_run hs, Builtin.lenOf, hroom, hf, Addr.add_lit, hst]
  · simp [storeCells] at hst
    subst hst
    cases A <;> simp [Builtin.append_, run_underlying (elOf_und ht), run_underlying (elOf_und ht2), szOf_run hs, Builtin.lenOf, hroom, hf, storeCells]

theorem append_grows {P : Program} {w : World} {t t2 e e2 ty sz by' n m c c2 : Nat} {A A2 : Option Addr} {news olds : List Value} {zs : List V} (ht : elOf P t = some e) (ht2 : elOf P t2 = some e2) (hs : szOf P e = some sz) (hb : bytOf P e = some by') (hz : zcells P e = some zs) (hzl : zs.length = sz)
    (hl : news.length = m * sz) (hsrc : (∃ b o, A2 = some ⟨b, o, none⟩ ∧ ∀ (j : Nat) (y : Value), news[j]? = some y → w.cell? ⟨b, o + j, none⟩ = some y) ∨ m = 0) (hlo : olds.length = n * sz)
    (hold : (∃ b o, A = some ⟨b, o, none⟩ ∧ ∀ (j : Nat) (y : Value), olds[j]? = some y → w.cell? ⟨b, o + j, none⟩ = some y) ∨ n = 0) (hgrow : c < n + m) (hbig : (n + m) * by' ≤ 140737488355328) (hmx : n + m ≤ maxLen) :
    ∃ rest : List Value, (Builtin.append_ #[t, t2] ty #[.slice A n c, .slice A2 m c2]).run P w = .ok (.slice (some ⟨w.heap.size, 0, none⟩) (n + m) (grownCap w (n + m) c e)) (w.drew.alloc (.cells (olds ++ news ++ rest).toArray e)) ∧ (olds ++ news ++ rest).length = grownCap w (n + m) c e * sz := by
  obtain ⟨i, z, hi, hz1, vs, hv, rfl, h1⟩ := zcells_info hz
  have hby : i.bytes = by' := by simpa [bytOf, hi] using hb
  have hsi : i.size = sz := by simpa [szOf, hi] using hs
  have hn : ¬ (n + m ≤ c) := by omega
  have h63 : ¬ (9223372036854775807 < ((n : Int) + (m : Int))) := by unfold maxLen at hmx; omega
  have hfit := growslice_fits (need := n + m) (old := c) (bytes := i.bytes) hgrow (by rw [hby]; exact hbig)
  have h48 : ¬ (281474976710656 < Builtin.nextslicecap (n + m) c * i.bytes) := by omega
  have hf := first_run (P := P) (w := w.drew) (c := c2) hl (by simpa using hsrc)
  have hfo := first_run (P := P) (w := w.drew) (c := c) hlo (by simpa using hold)
  have hge := grownCap_ge w (n + m) c e
  refine ⟨(Builtin.zeroCells z.cells (grownCap w (n + m) c e - (n + m))).toList, ?_, ?_⟩
  · rw [hsi.symm] at hf hfo
    simp [Builtin.append_, run_underlying (elOf_und ht), run_underlying (elOf_und ht2), sizeOf, typeInfo, zeroValue, hi, hz1, Builtin.lenOf, hn, h63, h48, Question.forced, hf, hfo, newRow, grownCap]
    congr 2
    apply Array.ext'
    simp
  · simp only [List.length_append, hlo, hl, Array.length_toList, size_zeroCells, hv, List.size_toArray]
    rw [List.length_map] at hzl
    rw [hzl, ← Nat.add_mul, ← Nat.add_mul]
    congr 1
    omega

section
variable {P : Program} {B : Gd} {σ : Nat → V} {M : Hp} {id : Nat} {K : V → Hp → Prop} {dst : Option Nat} {ty : Nat} {pos : String} {after : Array Edge} {guard : Option (Nat × Bool)}

/-- What is appended to: nothing yet, or an object of the walk's own, all of it. -/
def vbase (M : Hp) (sz : Nat) : V → Option (List (List V) × Option Nat)
  | .val (.slice none 0 0) => some ([], none)
  | .own i 0 n => (M i).bind fun o => if o.sz = sz ∧ n = o.els.length then some (o.els, some i) else none
  | _ => none

def dropM (M : Hp) : Option Nat → Hp
  | none => M
  | some i => setM M i none

theorem w_append {t t2 e e2 sz by' : Nat} {x y : Operand} {zs : List V} {els1 els2 : List (List V)} {oi : Option Nat} (ht : elOf P t = some e) (ht2 : elOf P t2 = some e2) (hs : szOf P e = some sz) (hb : bytOf P e = some by') (hz : zcells P e = some zs) (hzl : zs.length = sz)
    (hx : vbase M sz (ev σ x) = some (els1, oi)) (hy : vels M sz (ev σ y) = some els2) (hbig : (els1.length + els2.length) * by' ≤ 140737488355328) (hmx : els1.length + els2.length ≤ maxLen) (hsz0 : sz ≠ 0)
    (hK : K (.own id 0 (els1.length + els2.length)) (setM (dropM M oi) id (some ⟨els1 ++ els2, sz⟩))) :
    OpW P B ⟨dst, .call ⟨.builtin .append, #[x, y], #[t, t2]⟩, ty, pos, after, guard⟩ σ M id K := by
  refine opw_on hK fun ac w F ν hok hid hm => ?_
  obtain ⟨hl2, A2, c2, news, hv2, hc2, _, hnl, hnr, hsrc⟩ := vels_src hok (ev_rel hm y) hy
  have hsrc' : (∃ b o, A2 = some ⟨b, o, none⟩ ∧ ∀ (j : Nat) (y : Value), news[j]? = some y → w.cell? ⟨b, o + j, none⟩ = some y) ∨ els2.length = 0 := hsrc.imp (fun h => h) els_of_nil
  have h1 := ev_rel hm x
  -- the growing way, wherever the elements lie
  have grow : ∀ (A : Option Addr) (c : Nat) (olds : List Value), ac.eval x = .slice A els1.length c → (∀ el ∈ els1, el.length = sz) → olds.length = els1.length * sz → RL F ν olds els1.flatten →
      ((∃ b o, A = some ⟨b, o, none⟩ ∧ ∀ (j : Nat) (y : Value), olds[j]? = some y → w.cell? ⟨b, o + j, none⟩ = some y) ∨ els1.length = 0) → c < els1.length + els2.length →
      ∃ r v w' F' ν', (execOp ac.eval ⟨dst, .call ⟨.builtin .append, #[x, y], #[t, t2]⟩, ty, pos, after, guard⟩).run P w = .ok r w' ∧ (r = .value v ∨ (r = .skip ∧ v = undef)) ∧ Ok B F' ν' (setM (dropM M oi) id (some ⟨els1 ++ els2, sz⟩)) w' ∧ Fz.le F F' ∧ Nu.le ν ν' ∧ (∀ x, x ≠ id → ν' x = ν x) ∧ Rel F' ν' v (.own id 0 (els1.length + els2.length)) := by
    intro A c olds hv hl1 hol hor hold hgrow
    obtain ⟨rest, hrun, hrl⟩ := append_grows (P := P) (w := w) (ty := ty) (c2 := c2) ht ht2 hs hb hz hzl hnl hsrc' hol hold hgrow hbig hmx
    have hD : Ok B F ν (dropM M oi) w := by
      cases oi with
      | none => exact hok
      | some i => exact hok.drop i
    have ok1 := hD.drewOn.allocs (.cells (olds ++ news ++ rest).toArray e)
    have hnn : RL F ν (olds ++ news) (els1 ++ els2).flatten := by
      rw [List.flatten_append]
      exact hor.append hnr
    have hel := hnn.elements (els := els1 ++ els2) (sz := sz) (by
      intro el hel
      rcases List.mem_append.1 hel with h | h
      · exact hl1 el h
      · exact hl2 el h) (cur := (olds ++ news ++ rest).toArray) (rest := rest) (by simp)
    have h2 := ok1.made (id := id) (o := ⟨els1 ++ els2, sz⟩) hid (heap_new w.drew _) (hD.noF (Nat.le_refl _)) (hD.notOb (Nat.le_refl _)) (.inr hD.size) (fun x _ => by simp) (fun i el hi => by
      have hm := List.mem_of_getElem? hi
      rcases List.mem_append.1 hm with h | h
      · exact hl1 el h
      · exact hl2 el h) hel.1 hel.2
    refine ⟨.value _, .slice (some ⟨w.heap.size, 0, none⟩) (els1.length + els2.length) (grownCap w (els1.length + els2.length) c e), _, F, _, ?_, .inl rfl, h2.1, Fz.le_refl _, h2.2, setN_other, ?_⟩
    · simp only [execOp, resolve, invoke, builtin, hv, hv2, List.map_toArray, List.map_cons, List.map_nil]
      simp [hrun]
    · refine .own id 0 _ _ _ ⟨w.heap.size, sz, (olds ++ news ++ rest).toArray.size, false, e⟩ (by simp [setN]) (grownCap_ge w _ _ _) (grownCap_le_maxLen w _ _ _ hmx) (fun _ => ⟨by simp, ?_⟩) (.inr ⟨_, rfl, rfl⟩)
      show (0 + _) * sz ≤ (olds ++ news ++ rest).toArray.size
      rw [Nat.zero_add, List.size_toArray, hrl]
      exact Nat.le_refl _
  generalize hv : ac.eval x = v at h1
  unfold vbase at hx
  split at hx
  · rename_i he
    rw [he] at h1
    simp only [Option.some.injEq, Prod.mk.injEq] at hx
    obtain ⟨rfl, rfl⟩ := hx
    have e1 := rel_val h1
    subst e1
    by_cases h0 : els2.length = 0
    · have hn0 : news = [] := List.eq_nil_of_length_eq_zero (by rw [hnl, h0, Nat.zero_mul])
      have happ := append_room (P := P) (w := w) (ty := ty) (n := 0) (c := 0) (c2 := c2) (A := none) ht ht2 hs hnl hsrc' (by omega) 0 0 (.inr hn0) (w' := w) (by subst hn0; simp [storeCells])
      have he2 : els2 = [] := List.eq_nil_of_length_eq_zero h0
      obtain ⟨ok2, hle⟩ := hok.new (id := id) (o := ⟨[] ++ els2, sz⟩) (k := ⟨0, sz, 0, true, 0⟩) hid (fun h => by cases h) (fun h => by cases h) (fun h => by cases h) (.inr ⟨rfl, rfl, rfl, by simp [he2]⟩)
      refine ⟨.value (.slice none (0 + els2.length) 0), _, w, F, _, ?_, .inl rfl, ok2, Fz.le_refl _, hle, setN_other, ?_⟩
      · simp only [execOp, resolve, invoke, builtin]
        simp [hv, hv2, happ]
      · refine .own id 0 _ _ _ ⟨0, sz, 0, true, 0⟩ (by simp [setN]) (by simp; omega) (by omega) (fun h => absurd rfl h) (.inl rfl)
    · exact grow none 0 [] hv (by simp) (by simp) ⟨rfl, fun j x hx => by simp at hx, fun j y x hy => by simp at hy⟩ (.inr rfl) (by simp; omega)
  · rename_i i n he
    rw [he] at h1
    cases hM : M i with
    | none => simp [hM] at hx
    | some o =>
      simp only [hM, Option.bind_some] at hx
      split at hx
      · rename_i hc
        obtain ⟨rfl, rfl⟩ := hc
        simp only [Option.some.injEq, Prod.mk.injEq] at hx
        obtain ⟨rfl, rfl⟩ := hx
        cases h1 with
        | own _ _ _ c A k hk hcn hcm hA hB =>
          obtain ⟨hat0, hFk⟩ := hok.at hM hk
          have g5 := hat0.lens
          have hl1 : ∀ el ∈ o.els, el.length = o.sz := fun el hel => by
            obtain ⟨q, hq⟩ := List.mem_iff_getElem?.1 hel
            exact g5 _ _ hq
          by_cases hroom : o.els.length + els2.length ≤ c
          · rcases hat0 with ⟨hvt, cur, ty', fr, g1, ⟨g2, gty⟩, g3, g4, g5, g6, g7⟩ | ⟨hvt, hcap, hksz, he0⟩
            rotate_left
            · -- no block yet, and nothing is appended
              have hc0 : c = 0 := by
                by_cases h : c = 0
                · exact h
                · have h2 := (hA h).2
                  rw [hcap, hksz, Nat.zero_add] at h2
                  have : 0 < c * o.sz := Nat.mul_pos (by omega) (by omega)
                  omega
              subst hc0
              have h0 : els2.length = 0 := by omega
              have hn0 : news = [] := List.eq_nil_of_length_eq_zero (by rw [hnl, h0, Nat.zero_mul])
              have happ := append_room (P := P) (ty := ty) (c2 := c2) (A := A) ht ht2 hs hnl hsrc' hroom 0 0 (.inr hn0) (w' := w) (by subst hn0; simp [storeCells])
              have he2 : els2 = [] := List.eq_nil_of_length_eq_zero h0
              obtain ⟨ok2, hle⟩ := (hok.drop i).new (id := id) (o := ⟨o.els ++ els2, o.sz⟩) (k := ⟨0, o.sz, 0, true, 0⟩) hid (fun h => by cases h) (fun h => by cases h) (fun h => by cases h) (.inr ⟨rfl, rfl, rfl, by simp [he0, he2]⟩)
              refine ⟨.value (.slice A (o.els.length + els2.length) 0), _, w, F, _, ?_, .inl rfl, ok2, Fz.le_refl _, hle, setN_other, ?_⟩
              · simp only [execOp, resolve, invoke, builtin]
                simp [hv, hv2, happ]
              · exact .own id 0 _ _ _ ⟨0, o.sz, 0, true, 0⟩ (by simp [setN]) hroom (by omega) (fun h => absurd rfl h) (hB.imp (fun h => h) fun ⟨_, _, h⟩ => by rw [hvt] at h; cases h)
            -- there is room
            have hFk := hFk hvt
            have hA' : A = some ⟨k.b, 0, none⟩ ∨ news = [] := by
              by_cases h0 : c = 0
              · have : els2.length = 0 := by omega
                rw [this, Nat.zero_mul] at hnl
                exact .inr (List.eq_nil_of_length_eq_zero hnl)
              · obtain ⟨h, _⟩ := hA h0
                exact .inl (by simpa using h)
            have hfit : o.els.length * o.sz + news.length ≤ cur.size := by
              rw [g2, hnl, ← Nat.add_mul]
              by_cases h0 : c = 0
              · have : o.els.length + els2.length = 0 := by omega
                rw [this]
                simp
              · have := (hA h0).2
                rw [Nat.zero_add, g4] at this
                exact Nat.le_trans (Nat.mul_le_mul_right _ hroom) this
            obtain ⟨w', hrun, hb', hk', hsz', ho, htp, hou⟩ := run_cells_at (P := P) g1 hfit (by rw [g2]; exact g3) hnr.one
            have happ := append_room (P := P) (ty := ty) (c2 := c2) ht ht2 hs hnl hsrc' hroom k.b 0 hA' (w' := w') (by rw [Nat.zero_add]; exact hrun)
            have hlt : (cur.toList.take (o.els.length * o.sz)).length = o.els.length * o.sz := by rw [List.length_take, Array.length_toList]; omega
            have hat' : ObAt F ν w' ⟨o.els ++ els2, o.sz⟩ k := by
              refine .inl ⟨hvt, _, ty', fr, hb', ⟨?_, gty⟩, g3, g4, fun i el hi => ?_, ?_, fun i el j u hi hj => ?_⟩
              · simp only [List.size_toArray, List.length_append, List.length_drop, Array.length_toList, hlt]
                omega
              · rcases List.mem_append.1 (List.mem_of_getElem? hi) with h | h
                · exact hl1 el h
                · exact hl2 el h
              · dsimp only
                rw [List.length_append, Nat.add_mul, ← hnl, ← g2]
                exact hfit
              · dsimp only at hi ⊢
                rw [List.getElem?_toArray, List.append_assoc]
                by_cases hin : i < o.els.length
                · rw [List.getElem?_append_left hin] at hi
                  have hlen := g5 _ _ hi
                  have hjlt := (List.getElem?_eq_some_iff.1 hj).1
                  have hm1 : (i + 1) * o.sz ≤ o.els.length * o.sz := Nat.mul_le_mul_right _ hin
                  rw [Nat.add_mul] at hm1
                  rw [List.getElem?_append_left (by omega), List.getElem?_take, if_pos (by omega), Array.getElem?_toList]
                  exact g7 _ _ _ _ hi hj
                · rw [List.getElem?_append_right (by omega)] at hi
                  have hu := flat_at els2 o.sz (fun i el h => hl2 el (List.mem_of_getElem? h)) _ j el u hi hj
                  obtain ⟨y, hy⟩ := get_of_length hnr.1 hu
                  have hylt := (List.getElem?_eq_some_iff.1 hy).1
                  have hi2 : i * o.sz + j - o.els.length * o.sz = (i - o.els.length) * o.sz + j := by
                    rw [Nat.sub_mul]
                    have : o.els.length * o.sz ≤ i * o.sz := Nat.mul_le_mul_right _ (by omega)
                    omega
                  have hge : o.els.length * o.sz ≤ i * o.sz := Nat.mul_le_mul_right _ (by omega)
                  rw [List.getElem?_append_right (by omega), hlt, hi2, List.getElem?_append_left hylt]
                  exact ⟨hnr.2.1 _ _ hu, y, hy, hnr.2.2 _ _ _ hy hu⟩
            have ok1 := (hok.world ho htp hou (by omega) hM hk hvt (fun b _ hne => hk' b hne) hat').drop i
            have eM : setM (setM M i (some ⟨o.els ++ els2, o.sz⟩)) i none = setM M i none := by
              funext x
              simp only [setM_at]
              split <;> rfl
            rw [eM] at ok1
            have hob : ∀ id' o' k', setM M i none id' = some o' → ν id' = some k' → k'.vt = false → k'.b ≠ k.b := fun id' o' k' a b v1 => by
              by_cases e : id' = i
              · subst e
                rw [setM_same] at a
                cases a
              · rw [setM_ne e] at a
                exact hok.inj _ _ _ _ _ _ a hM e b hk v1 hvt
            obtain ⟨ok2, hle⟩ := ok1.new hid (fun _ => hFk) (fun _ => hob) (fun _ => hok.live _ _ _ hM hk hvt) hat'
            refine ⟨.value (.slice A (o.els.length + els2.length) c), _, w', F, _, ?_, .inl rfl, ok2, Fz.le_refl _, hle, setN_other, ?_⟩
            · simp only [execOp, resolve, invoke, builtin]
              simp [hv, hv2, happ]
            · refine .own id 0 _ _ _ k (by simp [setN]) hroom hcm hA hB
          · obtain ⟨_, A1, c1, olds, hv1, _, _, hol, hor, hosrc⟩ := vels_src (els := o.els) (sz := o.sz) hok (Rel.own (F := F) i 0 o.els.length c A k hk hcn hcm hA hB) (by simp [vels, hM])
            cases hv1
            exact grow A c olds hv hl1 hol hor (hosrc.imp (fun h => h) els_of_nil) (by omega)
      · cases hx
  · cases hx
end
end Go.Ka
