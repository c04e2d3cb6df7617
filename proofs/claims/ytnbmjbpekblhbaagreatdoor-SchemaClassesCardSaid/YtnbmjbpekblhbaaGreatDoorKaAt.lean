/- append: to an object of which the type is told. -/
import Derived.Test.YtnbmjbpekblhbaaGreatDoorKaAp
set_option linter.all false
namespace Go.Ka
open Go.RowKit
variable [Tab]
section
variable {P : Program} {B : Gd} {σ : Nat → V} {M : Hp} {id : Nat} {K : V → Hp → Prop} {dst : Option Nat} {ty : Nat} {pos : String} {after : Array Edge} {guard : Option (Nat × Bool)}
theorem w_appendT {t t2 e e2 sz by' : Nat} {x y : Operand} {zs : List V} {els2 : List (List V)} {o : Ob} {i T : Nat} (ht : elOf P t = some e) (ht2 : elOf P t2 = some e2) (hs : szOf P e = some sz) (hb : bytOf P e = some by') (hz : zcells P e = some zs) (hzl : zs.length = sz)
    (hx : ev σ x = .owt i o.els.length T) (hM : M i = some o) (hosz : o.sz = sz) (hTe : T = e) (hy : vels M sz (ev σ y) = some els2) (hbig : (o.els.length + els2.length) * by' ≤ 140737488355328) (hmx : o.els.length + els2.length ≤ maxLen) (hsz0 : sz ≠ 0)
    (hK : K (.owt id (o.els.length + els2.length) e) (setM (dropM M (some i)) id (some ⟨o.els ++ els2, sz⟩))) :
    OpW P B ⟨dst, .call ⟨.builtin .append, #[x, y], #[t, t2]⟩, ty, pos, after, guard⟩ σ M id K := by
  refine opw_on hK fun ac w F ν hok hid hm => ?_
  obtain ⟨hl2, A2, c2, news, hv2, hc2, _, hnl, hnr, hsrc⟩ := vels_src hok (ev_rel hm y) hy
  have hsrc' : (∃ b o, A2 = some ⟨b, o, none⟩ ∧ ∀ (j : Nat) (y : Value), news[j]? = some y → w.cell? ⟨b, o + j, none⟩ = some y) ∨ els2.length = 0 := hsrc.imp (fun h => h) els_of_nil
  have h1 := ev_rel hm x
  -- the growing way, wherever the elements lie
  have grow : ∀ (A : Option Addr) (c : Nat) (olds : List Value), ac.eval x = .slice A o.els.length c → (∀ el ∈ o.els, el.length = sz) → olds.length = o.els.length * sz → RL F ν olds o.els.flatten →
      ((∃ b o, A = some ⟨b, o, none⟩ ∧ ∀ (j : Nat) (y : Value), olds[j]? = some y → w.cell? ⟨b, o + j, none⟩ = some y) ∨ o.els.length = 0) → c < o.els.length + els2.length →
      ∃ r v w' F' ν', (execOp ac.eval ⟨dst, .call ⟨.builtin .append, #[x, y], #[t, t2]⟩, ty, pos, after, guard⟩).run P w = .ok r w' ∧ (r = .value v ∨ (r = .skip ∧ v = undef)) ∧ Ok B F' ν' (setM (dropM M (some i)) id (some ⟨o.els ++ els2, sz⟩)) w' ∧ Fz.le F F' ∧ Nu.le ν ν' ∧ (∀ x, x ≠ id → ν' x = ν x) ∧ Rel F' ν' v (.owt id (o.els.length + els2.length) e) := by
    intro A c olds hv hl1 hol hor hold hgrow
    obtain ⟨rest, hrun, hrl⟩ := append_grows (P := P) (w := w) (ty := ty) (c2 := c2) ht ht2 hs hb hz hzl hnl hsrc' hol hold hgrow hbig hmx
    have hD : Ok B F ν (dropM M (some i)) w := hok.drop i
    have ok1 := hD.drewOn.allocs (.cells (olds ++ news ++ rest).toArray e)
    have hnn : RL F ν (olds ++ news) (o.els ++ els2).flatten := by
      rw [List.flatten_append]
      exact hor.append hnr
    have hel := hnn.elements (els := o.els ++ els2) (sz := sz) (by
      intro el hel
      rcases List.mem_append.1 hel with h | h
      · exact hl1 el h
      · exact hl2 el h) (cur := (olds ++ news ++ rest).toArray) (rest := rest) (by simp)
    have h2 := ok1.made (id := id) (o := ⟨o.els ++ els2, sz⟩) hid (heap_new w.drew _) (hD.noF (Nat.le_refl _)) (hD.notOb (Nat.le_refl _)) (.inr hD.size) (fun x _ => by simp) (fun i el hi => by
      have hm := List.mem_of_getElem? hi
      rcases List.mem_append.1 hm with h | h
      · exact hl1 el h
      · exact hl2 el h) hel.1 hel.2
    refine ⟨.value _, .slice (some ⟨w.heap.size, 0, none⟩) (o.els.length + els2.length) (grownCap w (o.els.length + els2.length) c e), _, F, _, ?_, .inl rfl, h2.1, Fz.le_refl _, h2.2, setN_other, ?_⟩
    · simp only [execOp, resolve, invoke, builtin, hv, hv2, List.map_toArray, List.map_cons, List.map_nil]
      simp [hrun]
    · refine .owt id _ _ _ _ ⟨w.heap.size, sz, (olds ++ news ++ rest).toArray.size, false, e⟩ (by simp [setN]) (grownCap_ge w _ _ _) (grownCap_le_maxLen w _ _ _ hmx) (fun _ => ⟨by simp, ?_⟩) (.inr ⟨_, rfl, rfl⟩) (fun _ => rfl)
      show (0 + _) * sz ≤ (olds ++ news ++ rest).toArray.size
      rw [Nat.zero_add, List.size_toArray, hrl]
      exact Nat.le_refl _
  generalize hv : ac.eval x = v at h1
  rw [hx] at h1
  subst hosz
  cases h1 with
  | owt _ _ c _ A k hk hcn hcm hA hB hTy =>
    obtain ⟨hat0, hFk⟩ := hok.at hM hk
    have g5 := hat0.lens
    have hl1 : ∀ el ∈ o.els, el.length = o.sz := fun el hel => by
      obtain ⟨q, hq⟩ := List.mem_iff_getElem?.1 hel
      exact g5 _ _ hq
    by_cases hroom : o.els.length + els2.length ≤ c
    · rcases hat0 with ⟨hvt, cur, ty', fr, g1, ⟨g2, gty⟩, g3, g4, g5, g6, g7⟩ | ⟨hvt, hcap, hksz, he0⟩
      rotate_left
      · -- no block yet, and nothing is appended
        have hc0 : c = 0 := by
          by_cases h : c = 0
          · exact h
          · have h2 := (hA h).2
            rw [hcap, hksz, Nat.zero_add] at h2
            have : 0 < c * o.sz := Nat.mul_pos (by omega) (by omega)
            omega
        subst hc0
        have h0 : els2.length = 0 := by omega
        have hn0 : news = [] := List.eq_nil_of_length_eq_zero (by rw [hnl, h0, Nat.zero_mul])
        have happ := append_room (P := P) (ty := ty) (c2 := c2) (A := A) ht ht2 hs hnl hsrc' hroom 0 0 (.inr hn0) (w' := w) (by subst hn0; simp [storeCells])
        have he2 : els2 = [] := List.eq_nil_of_length_eq_zero h0
        obtain ⟨ok2, hle⟩ := (hok.drop i).new (id := id) (o := ⟨o.els ++ els2, o.sz⟩) (k := ⟨0, o.sz, 0, true, 0⟩) hid (fun h => by cases h) (fun h => by cases h) (fun h => by cases h) (.inr ⟨rfl, rfl, rfl, by simp [he0, he2]⟩)
        refine ⟨.value (.slice A (o.els.length + els2.length) 0), _, w, F, _, ?_, .inl rfl, ok2, Fz.le_refl _, hle, setN_other, ?_⟩
        · simp only [execOp, resolve, invoke, builtin]
          simp [hv, hv2, happ]
        · exact .owt id _ _ _ _ ⟨0, o.sz, 0, true, 0⟩ (by simp [setN]) hroom (by omega) (fun h => absurd rfl h) (hB.imp (fun h => h) fun ⟨_, _, h⟩ => by rw [hvt] at h; cases h) (fun h => by cases h)
      -- there is room
      have hFk := hFk hvt
      have hA' : A = some ⟨k.b, 0, none⟩ ∨ news = [] := by
        by_cases h0 : c = 0
        · have : els2.length = 0 := by omega
          rw [this, Nat.zero_mul] at hnl
          exact .inr (List.eq_nil_of_length_eq_zero hnl)
        · obtain ⟨h, _⟩ := hA h0
          exact .inl (by simpa using h)
      have hfit : o.els.length * o.sz + news.length ≤ cur.size := by
        rw [g2, hnl, ← Nat.add_mul]
        by_cases h0 : c = 0
        · have : o.els.length + els2.length = 0 := by omega
          rw [this]
          simp
        · have := (hA h0).2
          rw [Nat.zero_add, g4] at this
          exact Nat.le_trans (Nat.mul_le_mul_right _ hroom) this
      obtain ⟨w', hrun, hb', hk', hsz', ho, htp, hou⟩ := run_cells_at (P := P) g1 hfit (by rw [g2]; exact g3) hnr.one
      have happ := append_room (P := P) (ty := ty) (c2 := c2) ht ht2 hs hnl hsrc' hroom k.b 0 hA' (w' := w') (by rw [Nat.zero_add]; exact hrun)
      have hlt : (cur.toList.take (o.els.length * o.sz)).length = o.els.length * o.sz := by rw [List.length_take, Array.length_toList]; omega
      have hat' : ObAt F ν w' ⟨o.els ++ els2, o.sz⟩ k := by
        refine .inl ⟨hvt, _, ty', fr, hb', ⟨?_, gty⟩, g3, g4, fun i el hi => ?_, ?_, fun i el j u hi hj => ?_⟩
        · simp only [List.size_toArray, List.length_append, List.length_drop, Array.length_toList, hlt]
          omega
        · rcases List.mem_append.1 (List.mem_of_getElem? hi) with h | h
          · exact hl1 el h
          · exact hl2 el h
        · dsimp only
          rw [List.length_append, Nat.add_mul, ← hnl, ← g2]
          exact hfit
        · dsimp only at hi ⊢
          rw [List.getElem?_toArray, List.append_assoc]
          by_cases hin : i < o.els.length
          · rw [List.getElem?_append_left hin] at hi
            have hlen := g5 _ _ hi
            have hjlt := (List.getElem?_eq_some_iff.1 hj).1
            have hm1 : (i + 1) * o.sz ≤ o.els.length * o.sz := Nat.mul_le_mul_right _ hin
            rw [Nat.add_mul] at hm1
            rw [List.getElem?_append_left (by omega), List.getElem?_take, if_pos (by omega), Array.getElem?_toList]
            exact g7 _ _ _ _ hi hj
          · rw [List.getElem?_append_right (by omega)] at hi
            have hu := flat_at els2 o.sz (fun i el h => hl2 el (List.mem_of_getElem? h)) _ j el u hi hj
            obtain ⟨y, hy⟩ := get_of_length hnr.1 hu
            have hylt := (List.getElem?_eq_some_iff.1 hy).1
            have hi2 : i * o.sz + j - o.els.length * o.sz = (i - o.els.length) * o.sz + j := by
              rw [Nat.sub_mul]
              have : o.els.length * o.sz ≤ i * o.sz := Nat.mul_le_mul_right _ (by omega)
              omega
            have hge : o.els.length * o.sz ≤ i * o.sz := Nat.mul_le_mul_right _ (by omega)
            rw [List.getElem?_append_right (by omega), hlt, hi2, List.getElem?_append_left hylt]
            exact ⟨hnr.2.1 _ _ hu, y, hy, hnr.2.2 _ _ _ hy hu⟩
      have ok1 := (hok.world ho htp hou (by omega) hM hk hvt (fun b _ hne => hk' b hne) hat').drop i
      have eM : setM (setM M i (some ⟨o.els ++ els2, o.sz⟩)) i none = setM M i none := by
        funext x
        simp only [setM_at]
        split <;> rfl
      rw [eM] at ok1
      have hob : ∀ id' o' k', setM M i none id' = some o' → ν id' = some k' → k'.vt = false → k'.b ≠ k.b := fun id' o' k' a b v1 => by
        by_cases e : id' = i
        · subst e
          rw [setM_same] at a
          cases a
        · rw [setM_ne e] at a
          exact hok.inj _ _ _ _ _ _ a hM e b hk v1 hvt
      obtain ⟨ok2, hle⟩ := ok1.new hid (fun _ => hFk) (fun _ => hob) (fun _ => hok.live _ _ _ hM hk hvt) hat'
      refine ⟨.value (.slice A (o.els.length + els2.length) c), _, w', F, _, ?_, .inl rfl, ok2, Fz.le_refl _, hle, setN_other, ?_⟩
      · simp only [execOp, resolve, invoke, builtin]
        simp [hv, hv2, happ]
      · exact .owt id _ _ _ _ k (by simp [setN]) hroom hcm hA hB (fun h => (hTy h).trans hTe)
    · obtain ⟨_, A1, c1, olds, hv1, _, _, hol, hor, hosrc⟩ := vels_src (els := o.els) (sz := o.sz) hok (Rel.own (F := F) i 0 o.els.length c A k hk hcn hcm hA hB) (by simp [vels, hM])
      cases hv1
      exact grow A c olds hv hl1 hol hor (hosrc.imp (fun h => h) els_of_nil) (by omega)
theorem w_appendTS {t t2 e by' : Nat} {x y : Operand} {zs : List V} {s : ByteArray} {o : Ob} {i T : Nat} (ht : elOf P t = some e) (ht2 : P.underlying t2 = some .string) (hs : szOf P e = some 1) (hb : bytOf P e = some by') (hz : zcells P e = some zs) (hzl : zs.length = 1)
    (hx : ev σ x = .owt i o.els.length T) (hM : M i = some o) (hosz : o.sz = 1) (hTe : T = e) (hy : ev σ y = .val (.string s)) (hbig : (o.els.length + s.size) * by' ≤ 140737488355328) (hmx : o.els.length + s.size ≤ maxLen) 
    (hK : K (.owt id (o.els.length + s.size) e) (setM (dropM M (some i)) id (some ⟨o.els ++ s.data.toList.map byteEl, 1⟩))) :
    OpW P B ⟨dst, .call ⟨.builtin .append, #[x, y], #[t, t2]⟩, ty, pos, after, guard⟩ σ M id K := by
  refine opw_on hK fun ac w F ν hok hid hm => ?_
  have hv2 : ac.eval y = .string s := by have := ev_rel hm y; rw [hy] at this; exact rel_val this
  generalize hels2 : s.data.toList.map byteEl = els2 at *
  have hl2 : ∀ el ∈ els2, el.length = 1 := by rw [← hels2]; intro el hel; obtain ⟨q, _, rfl⟩ := List.mem_map.1 hel; rfl
  obtain ⟨news, hnw⟩ : ∃ news, news = Lib.strCells s := ⟨_, rfl⟩
  have hsl : els2.length = s.size := by rw [← hels2, List.length_map, Array.length_toList]; rfl
  have hnl : news.length = els2.length * 1 := by rw [hnw, Lib.strCells_length, hsl, Nat.mul_one]
  have hnr : RL F ν news els2.flatten := by
    rw [← hels2, hnw]
    have e : (s.data.toList.map byteEl).flatten = (Lib.strCells s).map .val := by
      simp only [Lib.strCells]
      induction s.data.toList with
      | nil => rfl
      | cons b r ih => simp [byteEl, ih]
    rw [e]
    exact RL.vals (F := F) (ν := ν) fun v hv => by
      simp only [Lib.strCells, List.mem_map] at hv
      obtain ⟨q, _, rfl⟩ := hv
      rfl
  rw [← hsl] at hK hbig hmx ⊢
  generalize hsz : (1 : Nat) = sz at *
  have hsz0 : sz ≠ 0 := by omega
  have h1 := ev_rel hm x
  -- the growing way, wherever the elements lie
  have grow : ∀ (A : Option Addr) (c : Nat) (olds : List Value), ac.eval x = .slice A o.els.length c → (∀ el ∈ o.els, el.length = sz) → olds.length = o.els.length * sz → RL F ν olds o.els.flatten →
      ((∃ b o, A = some ⟨b, o, none⟩ ∧ ∀ (j : Nat) (y : Value), olds[j]? = some y → w.cell? ⟨b, o + j, none⟩ = some y) ∨ o.els.length = 0) → c < o.els.length + els2.length →
      ∃ r v w' F' ν', (execOp ac.eval ⟨dst, .call ⟨.builtin .append, #[x, y], #[t, t2]⟩, ty, pos, after, guard⟩).run P w = .ok r w' ∧ (r = .value v ∨ (r = .skip ∧ v = undef)) ∧ Ok B F' ν' (setM (dropM M (some i)) id (some ⟨o.els ++ els2, sz⟩)) w' ∧ Fz.le F F' ∧ Nu.le ν ν' ∧ (∀ x, x ≠ id → ν' x = ν x) ∧ Rel F' ν' v (.owt id (o.els.length + els2.length) e) := by
    intro A c olds hv hl1 hol hor hold hgrow
    obtain ⟨rest, hrun, hrl⟩ := appendS_grows (P := P) (w := w) (ty := ty) ht ht2 hs hb hz hzl hnl hsl.symm hnw hol hold hgrow hbig hmx
    have hD : Ok B F ν (dropM M (some i)) w := hok.drop i
    have ok1 := hD.drewOn.allocs (.cells (olds ++ news ++ rest).toArray e)
    have hnn : RL F ν (olds ++ news) (o.els ++ els2).flatten := by
      rw [List.flatten_append]
      exact hor.append hnr
    have hel := hnn.elements (els := o.els ++ els2) (sz := sz) (by
      intro el hel
      rcases List.mem_append.1 hel with h | h
      · exact hl1 el h
      · exact hl2 el h) (cur := (olds ++ news ++ rest).toArray) (rest := rest) (by simp)
    have h2 := ok1.made (id := id) (o := ⟨o.els ++ els2, sz⟩) hid (heap_new w.drew _) (hD.noF (Nat.le_refl _)) (hD.notOb (Nat.le_refl _)) (.inr hD.size) (fun x _ => by simp) (fun i el hi => by
      have hm := List.mem_of_getElem? hi
      rcases List.mem_append.1 hm with h | h
      · exact hl1 el h
      · exact hl2 el h) hel.1 hel.2
    refine ⟨.value _, .slice (some ⟨w.heap.size, 0, none⟩) (o.els.length + els2.length) (grownCap w (o.els.length + els2.length) c e), _, F, _, ?_, .inl rfl, h2.1, Fz.le_refl _, h2.2, setN_other, ?_⟩
    · simp only [execOp, resolve, invoke, builtin, hv, hv2, List.map_toArray, List.map_cons, List.map_nil]
      simp [hrun]
    · refine .owt id _ _ _ _ ⟨w.heap.size, sz, (olds ++ news ++ rest).toArray.size, false, e⟩ (by simp [setN]) (grownCap_ge w _ _ _) (grownCap_le_maxLen w _ _ _ hmx) (fun _ => ⟨by simp, ?_⟩) (.inr ⟨_, rfl, rfl⟩) (fun _ => rfl)
      show (0 + _) * sz ≤ (olds ++ news ++ rest).toArray.size
      rw [Nat.zero_add, List.size_toArray, hrl]
      exact Nat.le_refl _
  generalize hv : ac.eval x = v at h1
  rw [hx] at h1
  subst hosz
  cases h1 with
  | owt _ _ c _ A k hk hcn hcm hA hB hTy =>
    obtain ⟨hat0, hFk⟩ := hok.at hM hk
    have g5 := hat0.lens
    have hl1 : ∀ el ∈ o.els, el.length = o.sz := fun el hel => by
      obtain ⟨q, hq⟩ := List.mem_iff_getElem?.1 hel
      exact g5 _ _ hq
    by_cases hroom : o.els.length + els2.length ≤ c
    · rcases hat0 with ⟨hvt, cur, ty', fr, g1, ⟨g2, gty⟩, g3, g4, g5, g6, g7⟩ | ⟨hvt, hcap, hksz, he0⟩
      rotate_left
      · -- no block yet, and nothing is appended
        have hc0 : c = 0 := by
          by_cases h : c = 0
          · exact h
          · have h2 := (hA h).2
            rw [hcap, hksz, Nat.zero_add] at h2
            have : 0 < c * o.sz := Nat.mul_pos (by omega) (by omega)
            omega
        subst hc0
        have h0 : els2.length = 0 := by omega
        have hn0 : news = [] := List.eq_nil_of_length_eq_zero (by rw [hnl, h0, Nat.zero_mul])
        have happ := appendS_room (P := P) (w := w) (ty := ty) (A := A) ht ht2 hs hsl.symm hnw hroom 0 0 (.inr hn0) (w' := w) (by rw [hn0]; simp [storeCells])
        have he2 : els2 = [] := List.eq_nil_of_length_eq_zero h0
        obtain ⟨ok2, hle⟩ := (hok.drop i).new (id := id) (o := ⟨o.els ++ els2, o.sz⟩) (k := ⟨0, o.sz, 0, true, 0⟩) hid (fun h => by cases h) (fun h => by cases h) (fun h => by cases h) (.inr ⟨rfl, rfl, rfl, by simp [he0, he2]⟩)
        refine ⟨.value (.slice A (o.els.length + els2.length) 0), _, w, F, _, ?_, .inl rfl, ok2, Fz.le_refl _, hle, setN_other, ?_⟩
        · simp only [execOp, resolve, invoke, builtin]
          simp [hv, hv2, happ]
        · exact .owt id _ _ _ _ ⟨0, o.sz, 0, true, 0⟩ (by simp [setN]) hroom (by omega) (fun h => absurd rfl h) (hB.imp (fun h => h) fun ⟨_, _, h⟩ => by rw [hvt] at h; cases h) (fun h => by cases h)
      -- there is room
      have hFk := hFk hvt
      have hA' : A = some ⟨k.b, 0, none⟩ ∨ news = [] := by
        by_cases h0 : c = 0
        · have : els2.length = 0 := by omega
          rw [this, Nat.zero_mul] at hnl
          exact .inr (List.eq_nil_of_length_eq_zero hnl)
        · obtain ⟨h, _⟩ := hA h0
          exact .inl (by simpa using h)
      have hfit : o.els.length * o.sz + news.length ≤ cur.size := by
        rw [g2, hnl, ← Nat.add_mul]
        by_cases h0 : c = 0
        · have : o.els.length + els2.length = 0 := by omega
          rw [this]
          simp
        · have := (hA h0).2
          rw [Nat.zero_add, g4] at this
          exact Nat.le_trans (Nat.mul_le_mul_right _ hroom) this
      obtain ⟨w', hrun, hb', hk', hsz', ho, htp, hou⟩ := run_cells_at (P := P) g1 hfit (by rw [g2]; exact g3) hnr.one
      have happ := appendS_room (P := P) (w := w) (ty := ty) ht ht2 hs hsl.symm hnw hroom k.b 0 hA' (w' := w') (by rw [Nat.zero_add]; exact hrun)
      have hlt : (cur.toList.take (o.els.length * o.sz)).length = o.els.length * o.sz := by rw [List.length_take, Array.length_toList]; omega
      have hat' : ObAt F ν w' ⟨o.els ++ els2, o.sz⟩ k := by
        refine .inl ⟨hvt, _, ty', fr, hb', ⟨?_, gty⟩, g3, g4, fun i el hi => ?_, ?_, fun i el j u hi hj => ?_⟩
        · simp only [List.size_toArray, List.length_append, List.length_drop, Array.length_toList, hlt]
          omega
        · rcases List.mem_append.1 (List.mem_of_getElem? hi) with h | h
          · exact hl1 el h
          · exact hl2 el h
        · dsimp only
          rw [List.length_append, Nat.add_mul, ← hnl, ← g2]
          exact hfit
        · dsimp only at hi ⊢
          rw [List.getElem?_toArray, List.append_assoc]
          by_cases hin : i < o.els.length
          · rw [List.getElem?_append_left hin] at hi
            have hlen := g5 _ _ hi
            have hjlt := (List.getElem?_eq_some_iff.1 hj).1
            have hm1 : (i + 1) * o.sz ≤ o.els.length * o.sz := Nat.mul_le_mul_right _ hin
            rw [Nat.add_mul] at hm1
            rw [List.getElem?_append_left (by omega), List.getElem?_take, if_pos (by omega), Array.getElem?_toList]
            exact g7 _ _ _ _ hi hj
          · rw [List.getElem?_append_right (by omega)] at hi
            have hu := flat_at els2 o.sz (fun i el h => hl2 el (List.mem_of_getElem? h)) _ j el u hi hj
            obtain ⟨y, hy⟩ := get_of_length hnr.1 hu
            have hylt := (List.getElem?_eq_some_iff.1 hy).1
            have hi2 : i * o.sz + j - o.els.length * o.sz = (i - o.els.length) * o.sz + j := by
              rw [Nat.sub_mul]
              have : o.els.length * o.sz ≤ i * o.sz := Nat.mul_le_mul_right _ (by omega)
              omega
            have hge : o.els.length * o.sz ≤ i * o.sz := Nat.mul_le_mul_right _ (by omega)
            rw [List.getElem?_append_right (by omega), hlt, hi2, List.getElem?_append_left hylt]
            exact ⟨hnr.2.1 _ _ hu, y, hy, hnr.2.2 _ _ _ hy hu⟩
      have ok1 := (hok.world ho htp hou (by omega) hM hk hvt (fun b _ hne => hk' b hne) hat').drop i
      have eM : setM (setM M i (some ⟨o.els ++ els2, o.sz⟩)) i none = setM M i none := by
        funext x
        simp only [setM_at]
        split <;> rfl
      rw [eM] at ok1
      have hob : ∀ id' o' k', setM M i none id' = some o' → ν id' = some k' → k'.vt = false → k'.b ≠ k.b := fun id' o' k' a b v1 => by
        by_cases e : id' = i
        · subst e
          rw [setM_same] at a
          cases a
        · rw [setM_ne e] at a
          exact hok.inj _ _ _ _ _ _ a hM e b hk v1 hvt
      obtain ⟨ok2, hle⟩ := ok1.new hid (fun _ => hFk) (fun _ => hob) (fun _ => hok.live _ _ _ hM hk hvt) hat'
      refine ⟨.value (.slice A (o.els.length + els2.length) c), _, w', F, _, ?_, .inl rfl, ok2, Fz.le_refl _, hle, setN_other, ?_⟩
      · simp only [execOp, resolve, invoke, builtin]
        simp [hv, hv2, happ]
      · exact .owt id _ _ _ _ k (by simp [setN]) hroom hcm hA hB (fun h => (hTy h).trans hTe)
    · obtain ⟨_, A1, c1, olds, hv1, _, _, hol, hor, hosrc⟩ := vels_src (els := o.els) (sz := o.sz) hok (Rel.own (F := F) i 0 o.els.length c A k hk hcn hcm hA hB) (by simp [vels, hM])
      cases hv1
      exact grow A c olds hv hl1 hol hor (hosrc.imp (fun h => h) els_of_nil) (by omega)
end
end Go.Ka
