/- Arrays: built, and looked into by their address. -/
import Derived.Test.YtnbmjbpekblhbaaGreatDoorKaBo
set_option linter.all false
namespace Go.Ka
open Go.RowKit
variable [Tab]
/-- An array's type: its length, its elements' cells, its zero cells. -/
def Ar (P : Program) (t n sz : Nat) (zs : List V) : Prop := ∃ e, P.underlying t = some (.array n e) ∧ szOf P e = some sz ∧ zcells P t = some zs
section
variable {P : Program} {B : Gd} {σ : Nat → V} {M : Hp} {id : Nat} {K : V → Hp → Prop} {dst : Option Nat} {ty : Nat} {pos : String} {after : Array Edge} {guard : Option (Nat × Bool)}
theorem w_buildArr {t n sz : Nat} {parts : Array (Nat × Operand)} {zs cs : List V} (hA : Ar P t n sz zs) (hc : vfill (fun i => some (i * sz, sz)) (evs σ parts.toList) zs = some cs) (hK : K (.agg cs) M) :
    OpW P B ⟨dst, .build t parts, ty, pos, after, guard⟩ σ M id K := by
  obtain ⟨e, he, hs, hz⟩ := hA
  refine opw_of hK fun ac w F ν hok hm => ?_
  obtain ⟨i, z, hi, hz1, vs, hv, rfl, h1⟩ := zcells_info hz
  obtain ⟨hl, hq⟩ := parts_rel hm parts.toList
  obtain ⟨ws, hw, hr⟩ := vfill_run _ _ _ _ _ hl hq (RL.vals (F := F) (ν := ν) h1) hc
  have hb : P.built t (parts.map fun p => (p.1, ac.eval p.2)).toList = some ws.toArray := by
    unfold szOf at hs
    cases hi2 : P.info? e with
    | none => simp [hi2] at hs
    | some ie =>
      simp [hi2] at hs
      unfold Program.built
      simp only [hi, he, hz1, hi2, hv, Array.toList_map, hs]
      simpa using hw
  exact ⟨.agg ws.toArray, by simp [execOp, run_build w t _ _ hb], hr.agg⟩
theorem w_indexArr {t n sz i j off q : Nat} {zs : List V} {x y : Operand} {k : IntKind} (hA : Ar P t n sz zs) (hx : ev σ x = .ptr i j off) (hy : ev σ y = .val (.int k (q : Nat))) (hq : q < n) (hK : K (.ptr i j (off + q * sz)) M) :
    OpW P B ⟨dst, .indexAddr t x y, ty, pos, after, guard⟩ σ M id K := by
  obtain ⟨e, he, hs, hz⟩ := hA
  refine opw_of hK fun ac w F ν hok hm => ?_
  have h2 := ev_rel hm y
  rw [hy] at h2
  have e2 := rel_val h2
  have h1 := ev_rel hm x
  rw [hx] at h1
  generalize hv : ac.eval x = v at h1
  cases h1 with
  | ptr _ _ _ kk hk =>
    have hin : (q : Int) < (n : Int) := by omega
    refine ⟨.pointer (some ⟨kk.b, j * kk.sz + off + q * sz, none⟩), ?_, ?_⟩
    · simp [execOp, hv, e2, Instr.indexAt, asIntOf, run_underlying he, hin, szOf_run hs, Addr.add_lit, Instr.sureAddr, hq]
    · rw [Nat.add_assoc]
      exact .ptr i j _ kk hk
end
section
variable {G : Rg} {os : List Oper} {i : Nat} {σ σ' : Nat → V} {M M' : Hp} {u : V} {ds : List Yd}
variable {d : Option Nat} {ty : Nat} {pos : String} {aft : Array Edge} {g : Option (Nat × Bool)} {x y : Operand} {t : Nat}
theorem x_bdA {parts : Array (Nat × Operand)} {zs cs : List V} {n sz : Nat} (A : Ar G.P t n sz zs) (h : vfill (fun i => some (i * sz, sz)) (evs σ parts.toList) zs = some cs) (c : Ck G ⟨d, .build t parts, ty, pos, aft, g⟩ i σ []) (r : Lx G os (i + 1) (upd σ d (.agg cs)) M ds σ' M') : Lx G (⟨d, .build t parts, ty, pos, aft, g⟩ :: os) i σ M (⟨.agg cs, []⟩ :: ds) σ' M' :=
  lx_on c (fun _ _ _ => w_buildArr A (by
    have : evs (see G.ops ⟨d, .build t parts, ty, pos, aft, g⟩ σ) parts.toList = evs σ parts.toList := List.map_congr_left fun p hp => by
      rw [ev_see (by simp only [Op.operands, List.mem_map]; exact ⟨p, hp, rfl⟩)]
    rw [this]
    exact h) ⟨rfl, rfl⟩) r
theorem x_ip {n sz q id j off : Nat} {zs : List V} {k : IntKind} (A : Ar G.P t n sz zs) (hx : ev σ x = .ptr id j off) (hy : ev σ y = .val (.int k (q : Nat))) (hq : Nat.blt q n = true) (c : Ck G ⟨d, .indexAddr t x y, ty, pos, aft, g⟩ i σ []) (r : Lx G os (i + 1) (upd σ d (.ptr id j (off + q * sz))) M ds σ' M') : Lx G (⟨d, .indexAddr t x y, ty, pos, aft, g⟩ :: os) i σ M (⟨.ptr id j (off + q * sz), []⟩ :: ds) σ' M' :=
  lx_on c (fun _ _ _ => w_indexArr A ((ev_see (by simp [Op.operands])).trans hx) ((ev_see (by simp [Op.operands])).trans hy) (by simpa using hq) ⟨rfl, rfl⟩) r
end
end Go.Ka
