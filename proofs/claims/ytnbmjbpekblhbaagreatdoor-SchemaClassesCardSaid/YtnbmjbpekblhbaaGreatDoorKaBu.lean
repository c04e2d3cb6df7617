/- strings.Builder: its cells, its bytes, its text. -/
import Derived.Test.YtnbmjbpekblhbaaGreatDoorKaAt
import Derived.Lib.UnsafeStr
set_option linter.all false
namespace Go.Ka
open Enc (enc)
open Go.RowKit
variable [Tab]

/-- A block that is nobody's turns. -/
theorem Ok.loose {B : Gd} {F : Fz} {ν : Nu} {M : Hp} {w w' : World} (h : Ok B F ν M w) (h1 : w'.os = w.os) (h2 : w'.tape = w.tape) (h3 : w'.output = w.output) (h4 : w.heap.size ≤ w'.heap.size) {b : Nat} (hF : ∀ x, F b x = none)
    (hob : ∀ id' o' k', M id' = some o' → ν id' = some k' → k'.vt = false → k'.b ≠ b) (hl : B.D b ∨ B.w.heap.size ≤ b) (h5 : ∀ b', b' < w.heap.size → b' ≠ b → w'.heap[b']? = w.heap[b']?) : Ok B F ν M w' := by
  refine ⟨fun b' o v hf => ?_, fun id1 o1 hm1 => ?_, h.inj, ⟨h1.trans h.below.os, h2.trans h.below.tape, h3.trans h.below.output, Nat.le_trans h.below.size h4, fun b' hb hD => ?_⟩, h.live, ⟨h.tab.1, fun b' o hb => by
    have hw := h.tab.2 b' o hb
    obtain ⟨x, v, hv⟩ := Tab.hd b' o hb
    rw [h5 b' (lt_of_some hw) (fun e => by have := h.tab.1 _ _ _ hv; rw [e, hF] at this; cases this)]
    exact hw⟩, h.ice⟩
  · rw [← h.fz _ _ _ hf]
    refine World.cell?_of_block (h5 b' (h.lt hf) fun e => ?_)
    rw [e, hF] at hf
    cases hf
  · obtain ⟨k1, hk1, hat1, hF1⟩ := h.ob _ _ hm1
    exact ⟨k1, hk1, hat1.mono (Fz.le_refl _) (Nu.le_refl _) (fun v1 => h5 _ (h.obLt hm1 hk1 v1) (hob _ _ _ hm1 hk1 v1)), hF1⟩
  · rw [h5 b' (Nat.lt_of_lt_of_le hb h.below.size) (fun e => by
      subst e
      rcases hl with hl | hl
      · exact hD hl
      · omega)]
    exact h.below.block b' hb hD

/-- What unsafe.SliceData hands back. -/
def sdV (id n T : Nat) : V := bif Nat.beq n 0 then .pp else .ps id T
section
variable {P : Program} {B : Gd} {σ : Nat → V} {M : Hp} {id : Nat} {K : V → Hp → Prop} {dst : Option Nat} {ty : Nat} {pos : String} {after : Array Edge} {guard : Option (Nat × Bool)}
theorem w_sd {t e i T : Nat} {x : Operand} {l : Str} (ht : P.underlying ty = some (.pointer e)) (hx : ev σ x = .owt i l.length T) (hM : M i = some (ob l)) (hK : K (sdV i l.length T) M) :
    OpW P B ⟨dst, .call ⟨.builtin .unsafeSliceData, #[x], #[t]⟩, ty, pos, after, guard⟩ σ M id K := by
  refine opw_on hK fun ac w F ν hok hid hm => ?_
  have h1 := ev_rel hm x
  rw [hx] at h1
  generalize hv : ac.eval x = v at h1
  cases h1 with
  | owt _ _ c _ A k hk hc hcm hA hB hT =>
    by_cases h0 : c = 0
    · subst h0
      have hl0 : l.length = 0 := by omega
      have e0 : sdV i l.length T = .pp := by rw [hl0]; rfl
      rcases hB with rfl | ⟨off, rfl, hvt⟩
      · refine ⟨.value (.pointer none), _, w, F, ν, ?_, .inl rfl, hok, Fz.le_refl _, Nu.le_refl _, fun _ _ => rfl, by rw [e0]; exact .pp _⟩
        simp only [execOp, resolve, invoke, builtin, hv, List.map_toArray, List.map_cons, List.map_nil]
        simp [Lib.run_unsafeSliceData_nil]
      · obtain ⟨hat, _⟩ := hok.at hM hk
        obtain ⟨cur, ty', fr, g1, _⟩ := hat.realV hvt
        have hsh : w.shape? k.b = some (ty', cur.size) := by simp [World.shape?, g1]
        have := Lib.run_unsafeSliceData_zero (P := P) (w := w) #[t] ty e ht ⟨k.b, off, none⟩ l.length _ hsh
        refine ⟨.value (.pointer (some ⟨w.heap.size, 0, none⟩)), _, _, F, ν, ?_, .inl rfl, hok.allocs (.view ⟨k.b, off, none⟩ e), Fz.le_refl _, Nu.le_refl _, fun _ _ => rfl, by rw [e0]; exact .pp _⟩
        simp only [execOp, resolve, invoke, builtin, hv, List.map_toArray, List.map_cons, List.map_nil]
        simp [this]
    · obtain ⟨rfl, hcap⟩ := hA h0
      refine ⟨.value (.pointer (some ⟨k.b, 0 * k.sz, none⟩)), _, w, F, ν, ?_, .inl rfl, hok, Fz.le_refl _, Nu.le_refl _, fun _ _ => rfl, ?_⟩
      · simp only [execOp, resolve, invoke, builtin, hv, List.map_toArray, List.map_cons, List.map_nil]
        simp [Lib.run_unsafeSliceData_row _ _ _ _ _ _ h0]
      · unfold sdV
        cases Nat.beq l.length 0 with
        | true => exact .pp _
        | false =>
          have hvt : k.vt = false := by
            rcases hB with hB | ⟨_, _, hv⟩
            · cases hB
            · exact hv
          have := Rel.ps (F := F) (ν := ν) i T k hk (hT hvt)
          simpa using this

theorem w_us {pt it e i T : Nat} {x y : Operand} {l : Str} (hp : P.underlying pt = some (.pointer e)) (hc : P.cellsOf e = 1) (hTe : T = e) (hmx : l.length ≤ 9223372036854775807) (hx : ev σ x = sdV i l.length T) (hy : ev σ y = i64 l.length) (hM : M i = some (ob l)) (hK : K (tx l) (setM M i none)) :
    OpW P B ⟨dst, .call ⟨.builtin .unsafeString, #[x, y], #[pt, it]⟩, ty, pos, after, guard⟩ σ M id K := by
  refine opw_on hK fun ac w F ν hok hid hm => ?_
  have h2 := ev_rel hm y
  rw [hy] at h2
  have e2 : ac.eval y = .int .i64 l.length := rel_val h2
  have h1 := ev_rel hm x
  rw [hx] at h1
  obtain ⟨k, hk, hat, hFk⟩ := hok.ob i _ hM
  generalize hv : ac.eval x = v at h1
  by_cases hl : l = []
  · subst hl
    have h1 : Rel F ν v .pp := h1
    cases h1 with
    | pp p =>
      refine ⟨.value (.string .empty), _, w, F, ν, ?_, .inl rfl, hok.drop i, Fz.le_refl _, Nu.le_refl _, fun _ _ => rfl, .val _ rfl⟩
      have e2 : ac.eval y = .int .i64 0 := e2
      simp only [execOp, resolve, invoke, builtin, hv, e2, List.map_toArray, List.map_cons, List.map_nil]
      simp [Lib.run_unsafeString_none]
  · have hpos : 0 < l.length := List.length_pos_iff.2 hl
    have e0 : sdV i l.length T = .ps i T := by
      unfold sdV
      cases hb : Nat.beq l.length 0 with
      | true => have := Nat.eq_of_beq_eq_true hb; omega
      | false => rfl
    rw [e0] at h1
    have hvt : k.vt = false := by
      obtain ⟨s, r, e⟩ := List.exists_cons_of_ne_nil hl
      exact (hat.real (i := 0) (el := [u8 s]) (by rw [e]; rfl)).1
    obtain ⟨cur, ty', fr, g1, ⟨g2, gty⟩, g3, g4, g5, g6, g7⟩ := hat.realV hvt
    have e1 : (ob l).els.length = l.length := by simp [ob]
    have e3 : (ob l).sz = 1 := rfl
    have hfit : l.length ≤ cur.size := by rw [g2]; rw [e1, e3] at g6; omega
    have hcell : ∀ (j : Nat) (b : UInt8), l[j]? = some b → w.cell? ((⟨k.b, 0, none⟩ : Addr).add j) = some (.int .u8 b.toNat) := fun j b hj => by
      obtain ⟨_, v, hv, hr⟩ := g7 j [u8 b] 0 (u8 b) (by simp [ob, hj]; rfl) rfl
      rw [Addr.add_lit, cell_at g1]
      rw [e3, show j * 1 + 0 = 0 + j by omega] at hv
      rw [hv, rel_val hr]
    cases h1 with
    | ps _ _ k' hk' hTk =>
      rw [hk] at hk'
      cases hk'
      have hsh : w.shape? k.b = some (e, cur.size) := by simp [World.shape?, g1, gty, hTk, hTe]
      have hrun := Lib.run_unsafeString_row (P := P) w pt it ty e hp hc k.b cur.size hsh l hl hfit hmx hcell
      refine ⟨.value (.string ⟨l.toArray⟩), _, w.freeze ⟨k.b, 0, none⟩ l.length, F, ν, ?_, .inl rfl, ?_, Fz.le_refl _, Nu.le_refl _, fun _ _ => rfl, .val _ rfl⟩
      · simp only [execOp, resolve, invoke, builtin, hv, e2, List.map_toArray, List.map_cons, List.map_nil]
        simp [hrun]
      · have hne : ¬ l.length = 0 := by omega
        unfold World.freeze
        rw [if_neg hne]
        refine (hok.drop i).loose rfl rfl rfl (by simp) (b := k.b) (hFk hvt) (fun id' o' k' a b v1 => ?_) (hok.live _ _ _ hM hk hvt) (fun b' hb' hne' => ?_)
        · by_cases e : id' = i
          · subst e; rw [setM_same] at a; cases a
          · rw [setM_ne e] at a
            exact hok.inj _ _ _ _ _ _ a hM e b hk v1 hvt
        · show (w.heap.modify k.b _)[b']? = _
          rw [Array.getElem?_modify, if_neg (Ne.symm hne')]

/-- A new builder: no bytes yet, and the address of nobody. -/
theorem w_alB {t : Nat} {cs : List V} (hz : zcells P t = some (.val (.pointer none) :: cs)) (h2 : cs.length = 1) (hK : K (.ptr id 0 0) (setM M id (some ⟨[.sp id t :: cs], cs.length + 1⟩))) :
    OpW P B ⟨dst, .alloc t, ty, pos, after, guard⟩ σ M id K := by
  refine opw_on hK fun ac w F ν hok hid hm => ?_
  obtain ⟨z, hz1, vs, hv, hcs, h1⟩ := zcells_run hz w
  have ok1 := hok.allocs (.cells vs.toArray t)
  have hlen : vs.length = cs.length + 1 := by have := congrArg List.length hcs; simpa using this.symm
  let k : Blk := ⟨w.heap.size, cs.length + 1, vs.toArray.size, false, t⟩
  have hsz : vs.toArray.size = cs.length + 1 := by simp [hlen]
  have hat : ObAt F (setN ν id k) (w.alloc (.cells vs.toArray t)) ⟨[.sp id t :: cs], cs.length + 1⟩ k := by
    refine .inl ⟨rfl, vs.toArray, t, (0, 0), heap_new w _, ⟨rfl, rfl⟩, fun x _ => by simp, rfl, fun i el hi => by cases i <;> simp at hi; subst hi; rfl, by simp [k, hsz], fun i el j u hi hj => ?_⟩
    cases i <;> simp at hi
    subst hi
    cases vs with
    | nil => simp at hlen
    | cons v vs =>
      simp at hcs
      obtain ⟨rfl, rfl⟩ := hcs
      cases j with
      | zero =>
        simp at hj
        subst hj
        exact ⟨rfl, _, by simp, .sp id t k none (by simp [setN]) ⟨rfl, by simp [k, hlen, h2]⟩ (.inl rfl)⟩
      | succ j =>
        simp only [List.getElem?_cons_succ, List.getElem?_map] at hj
        cases hy : vs[j]? with
        | none => simp [hy] at hj
        | some y =>
          simp [hy] at hj
          subst hj
          exact ⟨rfl, y, by simp [hy], .val y (h1 y (by simp [List.mem_of_getElem? hy]))⟩
  have hat0 : ObAt F ν (w.alloc (.cells vs.toArray t)) ⟨[vs.map .val], cs.length + 1⟩ k := by
    refine .inl ⟨rfl, vs.toArray, t, (0, 0), heap_new w _, ⟨rfl, rfl⟩, fun x _ => by simp, rfl, fun i el hi => by cases i <;> simp at hi; subst hi; simp [hlen], by simp [k, hsz], fun i el j u hi hj => ?_⟩
    cases i <;> simp at hi
    subst hi
    rw [List.getElem?_map] at hj
    cases hy : vs[j]? with
    | none => simp [hy] at hj
    | some y =>
      simp [hy] at hj
      subst hj
      exact ⟨rfl, y, by simpa using hy, .val y (h1 y (List.mem_of_getElem? hy))⟩
  obtain ⟨ok2, hle⟩ := ok1.new (id := id) (k := k) hid (fun _ => hok.noF (Nat.le_refl _)) (fun _ => hok.notOb (Nat.le_refl _)) (fun _ => .inr hok.size) hat0
  have ok3 := ok2.world (w' := w.alloc (.cells vs.toArray t)) rfl rfl rfl (Nat.le_refl _) (id := id) (setM_same _ _ _) (k := k) (by simp [setN]) rfl (fun _ _ _ => rfl) hat
  have eM : setM (setM M id (some ⟨[vs.map .val], cs.length + 1⟩)) id (some ⟨[.sp id t :: cs], cs.length + 1⟩) = setM M id (some ⟨[.sp id t :: cs], cs.length + 1⟩) := by
    funext x
    simp only [setM_at]
    split <;> rfl
  rw [eM] at ok3
  refine ⟨.value (.pointer (some ⟨w.heap.size, 0, none⟩)), .pointer (some ⟨w.heap.size, 0, none⟩), _, F, _, by simp [execOp, Instr.alloc, newVar, newRow, hv, hz1], .inl rfl, ok3, Fz.le_refl _, hle, setN_other, ?_⟩
  have := Rel.ptr (F := F) (ν := setN ν id k) id 0 0 k (by simp [setN])
  simpa using this
end

/-- The cells of a builder; what it holds. -/
def bO (s k n T e : Nat) : Ob := ⟨[[.sp s T, .owt k n e]], 2⟩
section
variable {G : Rg} {os : List Oper} {i : Nat} {σ σ' : Nat → V} {M M' : Hp} {u : V} {ds : List Yd}
variable {d : Option Nat} {ty : Nat} {pos : String} {aft : Array Edge} {g : Option (Nat × Bool)} {x y : Operand} {t : Nat}
theorem x_alB {cs : List V} (Z : zcells G.P t = some (.val (.pointer none) :: cs)) (h2 : cs.length = 1) (c : Ck G ⟨d, .alloc t, ty, pos, aft, g⟩ i σ [(G.n0 + i, some ⟨[.sp (G.n0 + i) t :: cs], cs.length + 1⟩)]) (r : Lx G os (i + 1) (upd σ d (.ptr (G.n0 + i) 0 0)) (setM M (G.n0 + i) (some ⟨[.sp (G.n0 + i) t :: cs], cs.length + 1⟩)) ds σ' M') : Lx G (⟨d, .alloc t, ty, pos, aft, g⟩ :: os) i σ M (⟨.ptr (G.n0 + i) 0 0, [(G.n0 + i, some ⟨[.sp (G.n0 + i) t :: cs], cs.length + 1⟩)]⟩ :: ds) σ' M' :=
  lx_on c (fun _ _ _ => w_alB Z h2 ⟨rfl, rfl⟩) r
/-- append to a builder's bytes: bytes; a text. -/
theorem x_apT {e b id T : Nat} {l1 l2 l3 : Str} (hT : elOf G.P t = some T) (hs : szOf G.P T = some 1) (hb : bytOf G.P T = some b) (hz : ∃ zs, zcells G.P T = some zs ∧ zs.length = 1) (hx : ev σ x = .owt id l1.length T) (hm : hideL (G.h i) M id = some (ob l1)) (hy : vels (hideL (G.h i) M) 1 (ev σ y) = some (l2.map enc)) (h : appO b l1 l2 = some l3) (he : T = e)
    (c : Ck G ⟨d, .call ⟨.builtin .append, #[x, y], #[t, t]⟩, ty, pos, aft, g⟩ i σ [(id, none), (G.n0 + i, some (ob l3))])
    (r : Lx G os (i + 1) (upd σ d (.owt (G.n0 + i) l3.length e)) (setM (setM M id none) (G.n0 + i) (some (ob l3))) ds σ' M') :
    Lx G (⟨d, .call ⟨.builtin .append, #[x, y], #[t, t]⟩, ty, pos, aft, g⟩ :: os) i σ M (⟨.owt (G.n0 + i) l3.length e, [(id, none), (G.n0 + i, some (ob l3))]⟩ :: ds) σ' M' := by
  obtain ⟨h1, rfl⟩ := okO_inv h
  obtain ⟨zs, hz, hzl⟩ := hz
  subst he
  have hf := fitB_iff.1 h1
  have el : (ob l1).els.length = l1.length := by simp [ob]
  refine lx_on c (fun M2 M3 hs' => w_appendT (o := ob l1) (els2 := l2.map enc) hT hT hs hb hz hzl (by rw [ev_see (by simp [Op.operands, Call.operands]), hx, el]) (hs' _ _ hm) rfl rfl (by rw [ev_see (by simp [Op.operands, Call.operands])]; exact vels_mono hs' hy) (by rw [el, List.length_map]; exact hf.1) (by rw [el, List.length_map]; exact hf.2) (by decide) ⟨by simp [ob], ?_⟩) r
  simp [dropM, ob, app]
  rfl
theorem x_apTS {e b id T t' : Nat} {l1 l2 l3 : Str} (hT : elOf G.P t = some T) (hs : szOf G.P T = some 1) (hb : bytOf G.P T = some b) (hz : ∃ zs, zcells G.P T = some zs ∧ zs.length = 1) (S : isStr G.P t' = true) (hx : ev σ x = .owt id l1.length T) (hm : hideL (G.h i) M id = some (ob l1)) (hy : ev σ y = tx l2) (h : appO b l1 l2 = some l3) (he : T = e)
    (c : Ck G ⟨d, .call ⟨.builtin .append, #[x, y], #[t, t']⟩, ty, pos, aft, g⟩ i σ [(id, none), (G.n0 + i, some (ob l3))])
    (r : Lx G os (i + 1) (upd σ d (.owt (G.n0 + i) l3.length e)) (setM (setM M id none) (G.n0 + i) (some (ob l3))) ds σ' M') :
    Lx G (⟨d, .call ⟨.builtin .append, #[x, y], #[t, t']⟩, ty, pos, aft, g⟩ :: os) i σ M (⟨.owt (G.n0 + i) l3.length e, [(id, none), (G.n0 + i, some (ob l3))]⟩ :: ds) σ' M' := by
  obtain ⟨h1, rfl⟩ := okO_inv h
  obtain ⟨zs, hz, hzl⟩ := hz
  subst he
  have hf := fitB_iff.1 h1
  have el : (ob l1).els.length = l1.length := by simp [ob]
  have sl : (⟨l2.toArray⟩ : ByteArray).size = l2.length := by simp [ByteArray.size]
  refine lx_on c (fun M2 M3 hs' => w_appendTS (o := ob l1) (s := ⟨l2.toArray⟩) hT (isStr_und S) hs hb hz hzl (by rw [ev_see (by simp [Op.operands, Call.operands]), hx, el]) (hs' _ _ hm) rfl rfl (by rw [ev_see (by simp [Op.operands, Call.operands])]; exact hy) (by rw [sl, el]; exact hf.1) (by rw [sl, el]; exact hf.2) ⟨by simp [ob, ByteArray.size], ?_⟩) r
  simp [dropM, ob, app]
  rfl
theorem x_sd {t e id T : Nat} {l : Str} (D : G.P.underlying ty = some (.pointer e)) (hx : ev σ x = .owt id l.length T) (hm : hideL (G.h i) M id = some (ob l)) (c : Ck G ⟨d, .call ⟨.builtin .unsafeSliceData, #[x], #[t]⟩, ty, pos, aft, g⟩ i σ []) (r : Lx G os (i + 1) (upd σ d (sdV id l.length T)) M ds σ' M') :
    Lx G (⟨d, .call ⟨.builtin .unsafeSliceData, #[x], #[t]⟩, ty, pos, aft, g⟩ :: os) i σ M (⟨sdV id l.length T, []⟩ :: ds) σ' M' :=
  lx_on c (fun _ _ hs => w_sd D (by rw [ev_see (by simp [Op.operands, Call.operands])]; exact hx) (hs _ _ hm) ⟨rfl, rfl⟩) r
theorem x_us {pt it e id T : Nat} {l : Str} (D : G.P.underlying pt = some (.pointer e)) (hc : G.P.cellsOf e = 1) (hTe : T = e) (hmx : Nat.ble l.length 9223372036854775807 = true) (hx : ev σ x = sdV id l.length T) (hy : ev σ y = i64 l.length) (hm : hideL (G.h i) M id = some (ob l)) (c : Ck G ⟨d, .call ⟨.builtin .unsafeString, #[x, y], #[pt, it]⟩, ty, pos, aft, g⟩ i σ [(id, none)]) (r : Lx G os (i + 1) (upd σ d (tx l)) (setM M id none) ds σ' M') :
    Lx G (⟨d, .call ⟨.builtin .unsafeString, #[x, y], #[pt, it]⟩, ty, pos, aft, g⟩ :: os) i σ M (⟨tx l, [(id, none)]⟩ :: ds) σ' M' :=
  lx_on c (fun _ _ hs => w_us D hc hTe (by simpa using hmx) (by rw [ev_see (by simp [Op.operands, Call.operands])]; exact hx) (by rw [ev_see (by simp [Op.operands, Call.operands])]; exact hy) (hs _ _ hm) ⟨rfl, rfl⟩) r
end
end Go.Ka
