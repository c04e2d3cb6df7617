/- The program comes to what the plain functions say. -/
import Derived.Test.YtnbmjbpekblhbaaGreatDoorMD
import Derived.Test.YtnbmjbpekblhbaaGreatDoorMB
import Derived.Test.YtnbmjbpekblhbaaGreatDoorMC
import Derived.Test.YtnbmjbpekblhbaaGreatDoorME
set_option linter.all false
namespace Go.Ka
open Go.Proofs Go.Ka.Tryz
open Enc (enc)
variable [Tab] [Tabs]
set_option maxRecDepth 100000

theorem c_dn_lower (p0 : UInt8) (r : UInt8) (h : s_dn_lower p0 = some r) : Pu Tryz.prog 78 [u8 p0] (u8 r) := by
  refine ⟨(nfc nfv nfn), nfv, fs_start _ _ Tryz.func78 rfl Tryz.ntmps78 Tryz.results78 rfl fun X hnt hn => ?_⟩
  rw [s_dn_lower] at h
  refine cw_seq (cw_rg hnt rfl (x_as (eU 0 rfl) (k0 rfl) <| lx_nil) (cw_seq (cw_seq ?_)))
  obtain ⟨v2, hq, h⟩ := bindE h
  refine cw_rl [(8, bo v2)] (D := [3, 4, 5, 6, 7, 8]) hnt rfl rfl (by
    rcases Bool.eq_false_or_eq_true ((decide (65 ≤ p0))) with hb1 | hb1
    · replace hq := condT hb1 hq
      replace hq := Option.some.inj hq
      subst hq
      exact ⟨_, _, x_mv (eU p0 rfl) (k0 rfl) <| x_cu (eU 65 rfl) (eU p0 rfl) rfl (k0 rfl) <| x_mv (eB rfl) (k0 rfl) <| x_mv (eU p0 rfl) (k1 rfl rfl rfl (congrArg bo hb1)) <| x_cu (eU p0 rfl) (eU 90 rfl) rfl (k1 rfl rfl rfl (congrArg bo hb1)) <| x_pt rfl hb1 (eB rfl) (k0 rfl) <| lx_nil, ⟨rfl, trivial⟩⟩
    · replace hq := condF hb1 hq
      replace hq := Option.some.inj hq
      subst hq
      exact ⟨_, _, x_mv (eU p0 rfl) (k0 rfl) <| x_cu (eU 65 rfl) (eU p0 rfl) rfl (k0 rfl) <| x_mv (eB rfl) (k0 rfl) <| lx_off rfl rfl (congrArg bo hb1) rfl <| lx_off rfl rfl (congrArg bo hb1) rfl <| x_pf rfl hb1 (eB rfl) (k0 rfl) <| lx_nil, ⟨rfl, trivial⟩⟩) ?_
  refine cw_cond rfl (fun hb3 => ?_) (fun hb3 => ?_)
  · replace h := condT hb3 h
    refine cw_rg hnt rfl (x_mv (eU p0 rfl) (k0 rfl) <| x_au (eU p0 rfl) (eU 32 rfl) rfl (k0 rfl) <| x_as (eU (p0 + 32) rfl) (k0 rfl) <| lx_nil) (cw_seq (cw_rg hnt rfl (x_mv (eU (p0 + 32) rfl) (k0 rfl) <| x_as (eU (p0 + 32) rfl) (k0 rfl) <| lx_nil) (cw_ret (cw_rn ?_))))
    cases h
    exact ⟨rfl, sub0⟩
  · replace h := condF hb3 h
    refine cw_skip (cw_seq (cw_rg hnt rfl (x_mv (eU p0 rfl) (k0 rfl) <| x_as (eU p0 rfl) (k0 rfl) <| lx_nil) (cw_ret (cw_rn ?_))))
    cases h
    exact ⟨rfl, sub0⟩

theorem c_dn_letter (p0 : UInt8) (r : Bool) (h : s_dn_letter p0 = some r) : Pu Tryz.prog 75 [u8 p0] (bo r) := by
  refine ⟨(nfc nfv nfn), nfv, fs_start _ _ Tryz.func75 rfl Tryz.ntmps75 Tryz.results75 rfl fun X hnt hn => ?_⟩
  rw [s_dn_letter] at h
  refine cw_seq (cw_rg hnt rfl (x_as (eB rfl) (k0 rfl) <| lx_nil) (cw_seq ?_))
  obtain ⟨v4, hq, h⟩ := bindE h
  refine cw_rl [(2, bo v4)] (D := [3, 4, 5, 6, 7, 8, 9, 10, 2]) hnt rfl rfl (by
    obtain ⟨v1, hv1, hq⟩ := bindE hq
    rcases Bool.eq_false_or_eq_true ((decide (97 ≤ v1))) with hb2 | hb2
    · replace hq := condT hb2 hq
      obtain ⟨v3, hv3, hq⟩ := bindE hq
      replace hq := Option.some.inj hq
      subst hq
      exact ⟨_, _, x_mv (eU p0 rfl) (k0 rfl) <| x_pu (eF rfl) P78 (c_dn_lower p0 v1 hv1) rfl (k0 rfl) <| x_cu (eU 97 rfl) (eU v1 rfl) rfl (k0 rfl) <| x_mv (eB rfl) (k0 rfl) <| x_mv (eU p0 rfl) (k1 rfl rfl rfl (congrArg bo hb2)) <| x_pu (eF rfl) P78 (c_dn_lower p0 v3 hv3) rfl (k1 rfl rfl rfl (congrArg bo hb2)) <| x_cu (eU v3 rfl) (eU 122 rfl) rfl (k1 rfl rfl rfl (congrArg bo hb2)) <| x_pt rfl hb2 (eB rfl) (k0 rfl) <| x_as (eB rfl) (k0 rfl) <| lx_nil, ⟨rfl, trivial⟩⟩
    · replace hq := condF hb2 hq
      replace hq := Option.some.inj hq
      subst hq
      exact ⟨_, _, x_mv (eU p0 rfl) (k0 rfl) <| x_pu (eF rfl) P78 (c_dn_lower p0 v1 hv1) rfl (k0 rfl) <| x_cu (eU 97 rfl) (eU v1 rfl) rfl (k0 rfl) <| x_mv (eB rfl) (k0 rfl) <| lx_off rfl rfl (congrArg bo hb2) rfl <| lx_off rfl rfl (congrArg bo hb2) rfl <| lx_off rfl rfl (congrArg bo hb2) rfl <| x_pf rfl hb2 (eB rfl) (k0 rfl) <| x_as (eB rfl) (k0 rfl) <| lx_nil, ⟨rfl, trivial⟩⟩) ?_
  refine cw_ret (cw_rn ?_)
  cases h
  exact ⟨rfl, sub0⟩

theorem c_dn_typed (p0 : Str) (r : Bool) (h : s_dn_typed p0 = some r) : Pu Tryz.prog 44 [tx p0] (bo r) := by
  refine ⟨(nfc nfv nfn), nfv, fs_start _ _ Tryz.func44 rfl Tryz.ntmps44 Tryz.results44 rfl fun X hnt hn => ?_⟩
  rw [s_dn_typed] at h
  refine cw_seq (cw_rg hnt rfl (x_as (eB rfl) (k0 rfl) <| lx_nil) (cw_seq (cw_seq ?_)))
  obtain ⟨v5, hq, h⟩ := bindE h
  refine cw_rl [(17, bo v5)] (D := [5, 6, 7, 8, 9, 10, 11, 12, 13, 14, 15, 16, 17]) hnt rfl rfl (by
    rcases Bool.eq_false_or_eq_true ((p0 == [])) with hb1 | hb1
    · replace hq := condT hb1 hq
      replace hq := Option.some.inj hq
      subst hq
      exact ⟨_, _, x_mv (eT rfl) (k0 rfl) <| x_ct (eT rfl) (eT rfl) rfl (k0 rfl) <| x_mv (eB rfl) (k0 rfl) <| lx_off rfl rfl (congrArg bo hb1) rfl <| lx_off rfl rfl (congrArg bo hb1) rfl <| lx_off rfl rfl (congrArg bo hb1) rfl <| x_pt rfl hb1 (eB rfl) (k0 rfl) <| x_mv (eB rfl) (k0 rfl) <| lx_off rfl rfl rfl rfl <| lx_off rfl rfl rfl rfl <| lx_off rfl rfl rfl rfl <| lx_off rfl rfl rfl rfl <| x_pt rfl rfl (eB rfl) (k0 rfl) <| lx_nil, ⟨rfl, trivial⟩⟩
    · replace hq := condF hb1 hq
      rcases Bool.eq_false_or_eq_true ((decide ((p0.length : Int) > 30))) with hb2 | hb2
      · replace hq := condT hb2 hq
        replace hq := Option.some.inj hq
        subst hq
        exact ⟨_, _, x_mv (eT rfl) (k0 rfl) <| x_ct (eT rfl) (eT rfl) rfl (k0 rfl) <| x_mv (eB rfl) (k0 rfl) <| x_mv (eT rfl) (k1 rfl rfl rfl (congrArg bo hb1)) <| x_lnT T9 (eT rfl) (k1 rfl rfl rfl (congrArg bo hb1)) <| x_ci (eX (.val (.int .i64 (p0.length : Int))) rfl) (eX (.val (.int .i64 30)) rfl) rfl (k1 rfl rfl rfl (congrArg bo hb1)) <| x_pf rfl hb1 (eB rfl) (k0 rfl) <| x_mv (eB rfl) (k0 rfl) <| lx_off rfl rfl (congrArg bo hb2) rfl <| lx_off rfl rfl (congrArg bo hb2) rfl <| lx_off rfl rfl (congrArg bo hb2) rfl <| lx_off rfl rfl (congrArg bo hb2) rfl <| x_pt rfl hb2 (eB rfl) (k0 rfl) <| lx_nil, ⟨rfl, trivial⟩⟩
      · replace hq := condF hb2 hq
        obtain ⟨v3, hv3, hq⟩ := bindE hq
        obtain ⟨v4, hv4, hq⟩ := bindE hq
        replace hq := Option.some.inj hq
        subst hq
        exact ⟨_, _, x_mv (eT rfl) (k0 rfl) <| x_ct (eT rfl) (eT rfl) rfl (k0 rfl) <| x_mv (eB rfl) (k0 rfl) <| x_mv (eT rfl) (k1 rfl rfl rfl (congrArg bo hb1)) <| x_lnT T9 (eT rfl) (k1 rfl rfl rfl (congrArg bo hb1)) <| x_ci (eX (.val (.int .i64 (p0.length : Int))) rfl) (eX (.val (.int .i64 30)) rfl) rfl (k1 rfl rfl rfl (congrArg bo hb1)) <| x_pf rfl hb1 (eB rfl) (k0 rfl) <| x_mv (eB rfl) (k0 rfl) <| x_mv (eT rfl) (k1 rfl rfl rfl (congrArg bo hb2)) <| x_ixT T9 (eT rfl) rfl hv3 (k1 rfl rfl rfl (congrArg bo hb2)) <| x_pu (eF rfl) P75 (c_dn_letter v3 v4 hv4) rfl (k1 rfl rfl rfl (congrArg bo hb2)) <| x_not (eB rfl) (k1 rfl rfl rfl (congrArg bo hb2)) <| x_pf rfl hb2 (eB rfl) (k0 rfl) <| lx_nil, ⟨rfl, trivial⟩⟩) ?_
  refine cw_cond rfl (fun hb6 => ?_) (fun hb6 => ?_)
  · replace h := condT hb6 h
    refine cw_seq (cw_rg hnt rfl (x_as (eB rfl) (k0 rfl) <| lx_nil) (cw_ret (cw_rc (cw_rn ?_))))
    cases h
    exact ⟨rfl, sub0⟩
  · replace h := condF hb6 h
    refine cw_skip (cw_seq (cw_seq ?_))
    obtain ⟨v7, hv7, h⟩ := bindE h
    refine cw_rg hnt rfl (x_mv (eT rfl) (k0 rfl) <| x_tob T9 Y38 (eT rfl) hv7 (k0 rfl) <| x_ln (n := v7.length) E38 rfl (k0 rfl) <| x_mv (eI rfl) (k0 rfl) <| lx_nil) ?_
    refine cw_cut (fun st => dn_typed_k1 = some r ∧ st = ⟨ls [], hl [], 19⟩) ?_ ?_
    · skip
      refine cw_block (cw_to (to_ren (N := 0) (n' := 18) (L := [(19, .own 15 0 v7.length), (20, i64 (v7.length : Int)), (21, i64 0)]) (H := [(15, ob (v7 : Str))]) (id) [15] [] hn rfl rfl rfl fix0 (by decide) ⟨(Tr.own rfl), trv, trv, trivial⟩ ⟨.inr ⟨rfl, _, rfl, tro⟩, trivial⟩) ?_)
      refine cw_loop (fun g st => ∃ (v45 : Int), dn_typed_l1 v7 g v45 = some r ∧ st = ⟨ls [(19, .own 15 0 v7.length), (20, i64 (v7.length : Int)), (21, i64 v45)], hl [(15, ob (v7 : Str))], 18⟩) FUEL ⟨0, h, rfl⟩ ?_
      rintro g _ ⟨v45, h, rfl⟩
      rcases g with _ | g1
      · rw [dn_typed_l1] at h; cases h
      rw [dn_typed_l1] at h
      refine cw_seq (cw_rg hnt rfl (x_ci (eX (.val (.int .i64 v45)) rfl) (eX (.val (.int .i64 (v7.length : Int))) rfl) rfl (k0 rfl) <| lx_nil) (cw_seq ?_))
      refine cw_cond rfl (fun hb55 => ?_) (fun hb55 => ?_)
      · replace h := condT hb55 h
        refine cw_skip (cw_seq (cw_block (cw_seq ?_)))
        obtain ⟨v56, hv56, h⟩ := bindE h
        refine cw_rg hnt rfl (x_io E38 rfl (eO rfl) rfl rfl (lgB hv56) (k0 rfl) <| x_ldE L5 (eP rfl) rfl (lgO hv56) (sX (u8 v56) rfl) (k0 rfl) <| x_as (eU v56 rfl) (k0 rfl) <| lx_nil) (cw_seq ?_)
        obtain ⟨v61, hq, h⟩ := bindE h
        refine cw_rl [(40, bo v61)] (D := [25, 26, 27, 28, 29, 30, 31, 32, 33, 34, 35, 36, 37, 38, 39, 40]) hnt rfl rfl (by
          obtain ⟨v57, hv57, hq⟩ := bindE hq
          rcases Bool.eq_false_or_eq_true ((!v57)) with hb58 | hb58
          · replace hq := condT hb58 hq
            rcases Bool.eq_false_or_eq_true ((decide (48 ≤ v56))) with hb59 | hb59
            · replace hq := condT hb59 hq
              rcases Bool.eq_false_or_eq_true ((!(decide (v56 ≤ 57)))) with hb60 | hb60
              · replace hq := condT hb60 hq
                replace hq := Option.some.inj hq
                subst hq
                exact ⟨_, _, x_mv (eU v56 rfl) (k0 rfl) <| x_pu (eF rfl) P75 (c_dn_letter v56 v57 hv57) rfl (k0 rfl) <| x_not (eB rfl) (k0 rfl) <| x_mv (eB rfl) (k0 rfl) <| x_mv (eU v56 rfl) (k1 rfl rfl rfl (congrArg bo hb58)) <| x_cu (eU 48 rfl) (eU v56 rfl) rfl (k1 rfl rfl rfl (congrArg bo hb58)) <| x_mv (eB rfl) (k1 rfl rfl rfl (congrArg bo hb58)) <| x_mv (eU v56 rfl) (k1 rfl rfl rfl (congrArg bo hb59)) <| x_cu (eU v56 rfl) (eU 57 rfl) rfl (k1 rfl rfl rfl (congrArg bo hb59)) <| x_pt rfl hb59 (eB rfl) (k1 rfl rfl rfl (congrArg bo hb58)) <| x_not (eB rfl) (k1 rfl rfl rfl (congrArg bo hb58)) <| x_pt rfl hb58 (eB rfl) (k0 rfl) <| x_mv (eB rfl) (k0 rfl) <| x_mv (eU v56 rfl) (k1 rfl rfl rfl (congrArg bo hb60)) <| x_cu (eU v56 rfl) (eU 45 rfl) rfl (k1 rfl rfl rfl (congrArg bo hb60)) <| x_pt rfl hb60 (eB rfl) (k0 rfl) <| lx_nil, ⟨rfl, trivial⟩⟩
              · replace hq := condF hb60 hq
                replace hq := Option.some.inj hq
                subst hq
                exact ⟨_, _, x_mv (eU v56 rfl) (k0 rfl) <| x_pu (eF rfl) P75 (c_dn_letter v56 v57 hv57) rfl (k0 rfl) <| x_not (eB rfl) (k0 rfl) <| x_mv (eB rfl) (k0 rfl) <| x_mv (eU v56 rfl) (k1 rfl rfl rfl (congrArg bo hb58)) <| x_cu (eU 48 rfl) (eU v56 rfl) rfl (k1 rfl rfl rfl (congrArg bo hb58)) <| x_mv (eB rfl) (k1 rfl rfl rfl (congrArg bo hb58)) <| x_mv (eU v56 rfl) (k1 rfl rfl rfl (congrArg bo hb59)) <| x_cu (eU v56 rfl) (eU 57 rfl) rfl (k1 rfl rfl rfl (congrArg bo hb59)) <| x_pt rfl hb59 (eB rfl) (k1 rfl rfl rfl (congrArg bo hb58)) <| x_not (eB rfl) (k1 rfl rfl rfl (congrArg bo hb58)) <| x_pt rfl hb58 (eB rfl) (k0 rfl) <| x_mv (eB rfl) (k0 rfl) <| lx_off rfl rfl (congrArg bo hb60) rfl <| lx_off rfl rfl (congrArg bo hb60) rfl <| x_pf rfl hb60 (eB rfl) (k0 rfl) <| lx_nil, ⟨rfl, trivial⟩⟩
            · replace hq := condF hb59 hq
              replace hq := Option.some.inj hq
              subst hq
              exact ⟨_, _, x_mv (eU v56 rfl) (k0 rfl) <| x_pu (eF rfl) P75 (c_dn_letter v56 v57 hv57) rfl (k0 rfl) <| x_not (eB rfl) (k0 rfl) <| x_mv (eB rfl) (k0 rfl) <| x_mv (eU v56 rfl) (k1 rfl rfl rfl (congrArg bo hb58)) <| x_cu (eU 48 rfl) (eU v56 rfl) rfl (k1 rfl rfl rfl (congrArg bo hb58)) <| x_mv (eB rfl) (k1 rfl rfl rfl (congrArg bo hb58)) <| lx_off rfl rfl (congrArg bo hb59) rfl <| lx_off rfl rfl (congrArg bo hb59) rfl <| x_pf rfl hb59 (eB rfl) (k1 rfl rfl rfl (congrArg bo hb58)) <| x_not (eB rfl) (k1 rfl rfl rfl (congrArg bo hb58)) <| x_pt rfl hb58 (eB rfl) (k0 rfl) <| x_mv (eB rfl) (k0 rfl) <| x_mv (eU v56 rfl) (k1 rfl rfl rfl rfl) <| x_cu (eU v56 rfl) (eU 45 rfl) rfl (k1 rfl rfl rfl rfl) <| x_pt rfl rfl (eB rfl) (k0 rfl) <| lx_nil, ⟨rfl, trivial⟩⟩
          · replace hq := condF hb58 hq
            replace hq := Option.some.inj hq
            subst hq
            exact ⟨_, _, x_mv (eU v56 rfl) (k0 rfl) <| x_pu (eF rfl) P75 (c_dn_letter v56 v57 hv57) rfl (k0 rfl) <| x_not (eB rfl) (k0 rfl) <| x_mv (eB rfl) (k0 rfl) <| lx_off rfl rfl (congrArg bo hb58) rfl <| lx_off rfl rfl (congrArg bo hb58) rfl <| lx_off rfl rfl (congrArg bo hb58) rfl <| lx_dead rfl rfl rfl rfl <| lx_dead rfl rfl rfl rfl <| lx_off rfl rfl (congrArg bo hb58) rfl <| lx_off rfl rfl (congrArg bo hb58) rfl <| x_pf rfl hb58 (eB rfl) (k0 rfl) <| x_mv (eB rfl) (k0 rfl) <| lx_off rfl rfl rfl rfl <| lx_off rfl rfl rfl rfl <| x_pf rfl rfl (eB rfl) (k0 rfl) <| lx_nil, ⟨rfl, trivial⟩⟩) ?_
        refine cw_cond rfl (fun hb62 => ?_) (fun hb62 => ?_)
        · replace h := condT hb62 h
          refine cw_seq (cw_rg hnt rfl (x_as (eB rfl) (k0 rfl) <| lx_nil) (cw_ret (cw_rb (cw_rc (cw_rt (cw_rb (cw_rt (cw_rc (cw_rn ?_)))))))))
          cases h
          exact ⟨rfl, sub0⟩
        · replace h := condF hb62 h
          refine cw_skip (cw_blk ?_)
          obtain ⟨v63, hv63, h⟩ := bindE h
          refine cw_rg hnt rfl (x_ai (eI rfl) (eI rfl) hv63 (k0 rfl) <| x_mv (eI rfl) (k0 rfl) <| lx_nil) (cw_nil ?_)
          exact ⟨g1, _, Nat.lt_succ_self _, (to_ren (N := 0) (n' := 18) (L := [(19, .own 15 0 v7.length), (20, i64 (v7.length : Int)), (21, i64 v63)]) (H := [(15, ob (v7 : Str))]) (id) [15] [] hn rfl rfl rfl fix0 (by decide) ⟨(Tr.own rfl), trv, trv, trivial⟩ ⟨.inr ⟨rfl, _, rfl, tro⟩, trivial⟩), v63, h, rfl⟩
      · replace h := condF hb55 h
        refine cw_exit (cw_xc (cw_xt (cw_xb (cw_nil ?_))))
        exact ⟨_, (to_ren (N := 0) (n' := 19) (L := []) (H := []) (id) [] [] hn rfl rfl rfl fix0 .nil trivial trivial), h, rfl⟩
    · rintro _ ⟨h, rfl⟩
      rw [dn_typed_k1] at h
      refine cw_seq (cw_rg hnt rfl (x_as (eB rfl) (k0 rfl) <| lx_nil) (cw_ret (cw_rn ?_)))
      cases h
      exact ⟨rfl, sub0⟩

theorem c_dn_special (p0 : UInt8) (r : Bool) (h : s_dn_special p0 = some r) : Pu Tryz.prog 77 [u8 p0] (bo r) := by
  refine ⟨(nfc nfv nfn), nfv, fs_start _ _ Tryz.func77 rfl Tryz.ntmps77 Tryz.results77 rfl fun X hnt hn => ?_⟩
  rw [s_dn_special] at h
  refine cw_seq (cw_rg hnt rfl (x_as (eB rfl) (k0 rfl) <| lx_nil) (cw_seq ?_))
  obtain ⟨v1, hv1, h⟩ := bindE h
  refine cw_rg hnt rfl (x_mv (eU p0 rfl) (k0 rfl) <| x_pu (eF rfl) P95 (l_indexByte k_x2c2b225c3c3e3b p0 v1 hv1) rfl (k0 rfl) <| x_ci (eX (.val (.int .i64 v1)) rfl) (eX (.val (.int .i64 0)) rfl) rfl (k0 rfl) <| x_as (eB rfl) (k0 rfl) <| lx_nil) (cw_ret (cw_rn ?_))
  cases h
  exact ⟨rfl, sub0⟩

theorem c_dn_digit (p0 : UInt8) (r : Int) (h : s_dn_digit p0 = some r) : Pu Tryz.prog 94 [u8 p0] (i64 r) := by
  refine ⟨(nfc nfv nfn), nfv, fs_start _ _ Tryz.func94 rfl Tryz.ntmps94 Tryz.results94 rfl fun X hnt hn => ?_⟩
  rw [s_dn_digit] at h
  refine cw_seq (cw_rg hnt rfl (x_as (eI rfl) (k0 rfl) <| lx_nil) (cw_seq ?_))
  obtain ⟨v1, hv1, h⟩ := bindE h
  obtain ⟨v2, hv2, h⟩ := bindE h
  refine cw_rg hnt rfl (x_mv (eU p0 rfl) (k0 rfl) <| x_pu (eF rfl) P78 (c_dn_lower p0 v1 hv1) rfl (k0 rfl) <| x_pu (eF rfl) P95 (l_indexByte k_0123456789abcdef v1 v2 hv2) rfl (k0 rfl) <| x_as (eI rfl) (k0 rfl) <| lx_nil) (cw_ret (cw_rn ?_))
  cases h
  exact ⟨rfl, sub0⟩

theorem c_dn_escaped (p0 : Str) (r : UInt8 × Int) (h : s_dn_escaped p0 = some r) : Pu Tryz.prog 76 [tx p0] (.tup [u8 r.1, i64 r.2]) := by
  refine ⟨(nfc nfv nfn), (NF.tup (nfc nfv (nfc nfv nfn))), fs_start _ _ Tryz.func76 rfl Tryz.ntmps76 Tryz.results76 rfl fun X hnt hn => ?_⟩
  rw [s_dn_escaped] at h
  refine cw_seq (cw_rg hnt rfl (x_as (eU 0 rfl) (k0 rfl) <| x_as (eI rfl) (k0 rfl) <| lx_nil) (cw_seq (cw_block (cw_seq (cw_rg hnt rfl (x_mv (eT rfl) (k0 rfl) <| x_ct (eT rfl) (eT rfl) rfl (k0 rfl) <| x_as (eB rfl) (k0 rfl) <| lx_nil) ?_)))))
  refine cw_cond rfl (fun hb1 => ?_) (fun hb1 => ?_)
  · replace h := condT hb1 h
    refine cw_seq (cw_rg hnt rfl (x_as (eU 0 rfl) (k0 rfl) <| x_as (eI rfl) (k0 rfl) <| lx_nil) (cw_ret (cw_rb (cw_rc (cw_rn ?_)))))
    cases h
    exact ⟨rfl, sub0⟩
  · replace h := condF hb1 h
    refine cw_seq ?_
    obtain ⟨v10, hq, h⟩ := bindE h
    refine cw_rl [(7, bo v10)] (D := [8, 9, 10, 11, 12, 13, 14, 15, 16, 17, 18, 19, 20, 21, 22, 23, 24, 25, 7]) hnt rfl rfl (by
      obtain ⟨v2, hv2, hq⟩ := bindE hq
      obtain ⟨v3, hv3, hq⟩ := bindE hq
      rcases Bool.eq_false_or_eq_true (v3) with hb4 | hb4
      · replace hq := condT hb4 hq
        replace hq := Option.some.inj hq
        subst hq
        exact ⟨_, _, x_mv (eT rfl) (k0 rfl) <| x_ixT T9 (eT rfl) rfl hv2 (k0 rfl) <| x_pu (eF rfl) P77 (c_dn_special v2 v3 hv3) rfl (k0 rfl) <| x_mv (eB rfl) (k0 rfl) <| lx_off rfl rfl (congrArg bo hb4) rfl <| lx_off rfl rfl (congrArg bo hb4) rfl <| lx_off rfl rfl (congrArg bo hb4) rfl <| x_pt rfl hb4 (eB rfl) (k0 rfl) <| x_mv (eB rfl) (k0 rfl) <| lx_off rfl rfl rfl rfl <| lx_off rfl rfl rfl rfl <| lx_off rfl rfl rfl rfl <| x_pt rfl rfl (eB rfl) (k0 rfl) <| x_mv (eB rfl) (k0 rfl) <| lx_off rfl rfl rfl rfl <| lx_off rfl rfl rfl rfl <| lx_off rfl rfl rfl rfl <| x_pt rfl rfl (eB rfl) (k0 rfl) <| x_as (eB rfl) (k0 rfl) <| lx_nil, ⟨rfl, trivial⟩⟩
      · replace hq := condF hb4 hq
        obtain ⟨v5, hv5, hq⟩ := bindE hq
        rcases Bool.eq_false_or_eq_true ((v5 == 61)) with hb6 | hb6
        · replace hq := condT hb6 hq
          replace hq := Option.some.inj hq
          subst hq
          exact ⟨_, _, x_mv (eT rfl) (k0 rfl) <| x_ixT T9 (eT rfl) rfl hv2 (k0 rfl) <| x_pu (eF rfl) P77 (c_dn_special v2 v3 hv3) rfl (k0 rfl) <| x_mv (eB rfl) (k0 rfl) <| x_mv (eT rfl) (k1 rfl rfl rfl (congrArg bo hb4)) <| x_ixT T9 (eT rfl) rfl hv5 (k1 rfl rfl rfl (congrArg bo hb4)) <| x_cu (eU v5 rfl) (eU 61 rfl) rfl (k1 rfl rfl rfl (congrArg bo hb4)) <| x_pf rfl hb4 (eB rfl) (k0 rfl) <| x_mv (eB rfl) (k0 rfl) <| lx_off rfl rfl (congrArg bo hb6) rfl <| lx_off rfl rfl (congrArg bo hb6) rfl <| lx_off rfl rfl (congrArg bo hb6) rfl <| x_pt rfl hb6 (eB rfl) (k0 rfl) <| x_mv (eB rfl) (k0 rfl) <| lx_off rfl rfl rfl rfl <| lx_off rfl rfl rfl rfl <| lx_off rfl rfl rfl rfl <| x_pt rfl rfl (eB rfl) (k0 rfl) <| x_as (eB rfl) (k0 rfl) <| lx_nil, ⟨rfl, trivial⟩⟩
        · replace hq := condF hb6 hq
          obtain ⟨v7, hv7, hq⟩ := bindE hq
          rcases Bool.eq_false_or_eq_true ((v7 == 35)) with hb8 | hb8
          · replace hq := condT hb8 hq
            replace hq := Option.some.inj hq
            subst hq
            exact ⟨_, _, x_mv (eT rfl) (k0 rfl) <| x_ixT T9 (eT rfl) rfl hv2 (k0 rfl) <| x_pu (eF rfl) P77 (c_dn_special v2 v3 hv3) rfl (k0 rfl) <| x_mv (eB rfl) (k0 rfl) <| x_mv (eT rfl) (k1 rfl rfl rfl (congrArg bo hb4)) <| x_ixT T9 (eT rfl) rfl hv5 (k1 rfl rfl rfl (congrArg bo hb4)) <| x_cu (eU v5 rfl) (eU 61 rfl) rfl (k1 rfl rfl rfl (congrArg bo hb4)) <| x_pf rfl hb4 (eB rfl) (k0 rfl) <| x_mv (eB rfl) (k0 rfl) <| x_mv (eT rfl) (k1 rfl rfl rfl (congrArg bo hb6)) <| x_ixT T9 (eT rfl) rfl hv7 (k1 rfl rfl rfl (congrArg bo hb6)) <| x_cu (eU v7 rfl) (eU 35 rfl) rfl (k1 rfl rfl rfl (congrArg bo hb6)) <| x_pf rfl hb6 (eB rfl) (k0 rfl) <| x_mv (eB rfl) (k0 rfl) <| lx_off rfl rfl (congrArg bo hb8) rfl <| lx_off rfl rfl (congrArg bo hb8) rfl <| lx_off rfl rfl (congrArg bo hb8) rfl <| x_pt rfl hb8 (eB rfl) (k0 rfl) <| x_as (eB rfl) (k0 rfl) <| lx_nil, ⟨rfl, trivial⟩⟩
          · replace hq := condF hb8 hq
            obtain ⟨v9, hv9, hq⟩ := bindE hq
            replace hq := Option.some.inj hq
            subst hq
            exact ⟨_, _, x_mv (eT rfl) (k0 rfl) <| x_ixT T9 (eT rfl) rfl hv2 (k0 rfl) <| x_pu (eF rfl) P77 (c_dn_special v2 v3 hv3) rfl (k0 rfl) <| x_mv (eB rfl) (k0 rfl) <| x_mv (eT rfl) (k1 rfl rfl rfl (congrArg bo hb4)) <| x_ixT T9 (eT rfl) rfl hv5 (k1 rfl rfl rfl (congrArg bo hb4)) <| x_cu (eU v5 rfl) (eU 61 rfl) rfl (k1 rfl rfl rfl (congrArg bo hb4)) <| x_pf rfl hb4 (eB rfl) (k0 rfl) <| x_mv (eB rfl) (k0 rfl) <| x_mv (eT rfl) (k1 rfl rfl rfl (congrArg bo hb6)) <| x_ixT T9 (eT rfl) rfl hv7 (k1 rfl rfl rfl (congrArg bo hb6)) <| x_cu (eU v7 rfl) (eU 35 rfl) rfl (k1 rfl rfl rfl (congrArg bo hb6)) <| x_pf rfl hb6 (eB rfl) (k0 rfl) <| x_mv (eB rfl) (k0 rfl) <| x_mv (eT rfl) (k1 rfl rfl rfl (congrArg bo hb8)) <| x_ixT T9 (eT rfl) rfl hv9 (k1 rfl rfl rfl (congrArg bo hb8)) <| x_cu (eU v9 rfl) (eU 32 rfl) rfl (k1 rfl rfl rfl (congrArg bo hb8)) <| x_pf rfl hb8 (eB rfl) (k0 rfl) <| x_as (eB rfl) (k0 rfl) <| lx_nil, ⟨rfl, trivial⟩⟩) ?_
    refine cw_cond rfl (fun hb11 => ?_) (fun hb11 => ?_)
    · replace h := condT hb11 h
      refine cw_seq ?_
      obtain ⟨v12, hv12, h⟩ := bindE h
      refine cw_rg hnt rfl (x_mv (eT rfl) (k0 rfl) <| x_ixT T9 (eT rfl) rfl hv12 (k0 rfl) <| x_as (eU v12 rfl) (k0 rfl) <| x_as (eI rfl) (k0 rfl) <| lx_nil) (cw_ret (cw_rb (cw_rc (cw_rn ?_))))
      cases h
      exact ⟨rfl, sub0⟩
    · replace h := condF hb11 h
      refine cw_seq ?_
      obtain ⟨v19, hq, h⟩ := bindE h
      refine cw_rl [(28, bo v19)] (D := [29, 30, 31, 32, 33, 34, 35, 36, 37, 38, 39, 40, 41, 42, 43, 28]) hnt rfl rfl (by
        rcases Bool.eq_false_or_eq_true ((decide ((p0.length : Int) > 1))) with hb13 | hb13
        · replace hq := condT hb13 hq
          obtain ⟨v14, hv14, hq⟩ := bindE hq
          obtain ⟨v15, hv15, hq⟩ := bindE hq
          rcases Bool.eq_false_or_eq_true ((decide (v15 ≥ 0))) with hb16 | hb16
          · replace hq := condT hb16 hq
            obtain ⟨v17, hv17, hq⟩ := bindE hq
            obtain ⟨v18, hv18, hq⟩ := bindE hq
            replace hq := Option.some.inj hq
            subst hq
            exact ⟨_, _, x_mv (eT rfl) (k0 rfl) <| x_lnT T9 (eT rfl) (k0 rfl) <| x_ci (eX (.val (.int .i64 (p0.length : Int))) rfl) (eX (.val (.int .i64 1)) rfl) rfl (k0 rfl) <| x_mv (eB rfl) (k0 rfl) <| x_mv (eT rfl) (k1 rfl rfl rfl (congrArg bo hb13)) <| x_ixT T9 (eT rfl) rfl hv14 (k1 rfl rfl rfl (congrArg bo hb13)) <| x_pu (eF rfl) P94 (c_dn_digit v14 v15 hv15) rfl (k1 rfl rfl rfl (congrArg bo hb13)) <| x_ci (eX (.val (.int .i64 v15)) rfl) (eX (.val (.int .i64 0)) rfl) rfl (k1 rfl rfl rfl (congrArg bo hb13)) <| x_pt rfl hb13 (eB rfl) (k0 rfl) <| x_mv (eB rfl) (k0 rfl) <| x_mv (eT rfl) (k1 rfl rfl rfl (congrArg bo hb16)) <| x_ixT T9 (eT rfl) rfl hv17 (k1 rfl rfl rfl (congrArg bo hb16)) <| x_pu (eF rfl) P94 (c_dn_digit v17 v18 hv18) rfl (k1 rfl rfl rfl (congrArg bo hb16)) <| x_ci (eX (.val (.int .i64 v18)) rfl) (eX (.val (.int .i64 0)) rfl) rfl (k1 rfl rfl rfl (congrArg bo hb16)) <| x_pt rfl hb16 (eB rfl) (k0 rfl) <| x_as (eB rfl) (k0 rfl) <| lx_nil, ⟨rfl, trivial⟩⟩
          · replace hq := condF hb16 hq
            replace hq := Option.some.inj hq
            subst hq
            exact ⟨_, _, x_mv (eT rfl) (k0 rfl) <| x_lnT T9 (eT rfl) (k0 rfl) <| x_ci (eX (.val (.int .i64 (p0.length : Int))) rfl) (eX (.val (.int .i64 1)) rfl) rfl (k0 rfl) <| x_mv (eB rfl) (k0 rfl) <| x_mv (eT rfl) (k1 rfl rfl rfl (congrArg bo hb13)) <| x_ixT T9 (eT rfl) rfl hv14 (k1 rfl rfl rfl (congrArg bo hb13)) <| x_pu (eF rfl) P94 (c_dn_digit v14 v15 hv15) rfl (k1 rfl rfl rfl (congrArg bo hb13)) <| x_ci (eX (.val (.int .i64 v15)) rfl) (eX (.val (.int .i64 0)) rfl) rfl (k1 rfl rfl rfl (congrArg bo hb13)) <| x_pt rfl hb13 (eB rfl) (k0 rfl) <| x_mv (eB rfl) (k0 rfl) <| lx_off rfl rfl (congrArg bo hb16) rfl <| lx_off rfl rfl (congrArg bo hb16) rfl <| lx_off rfl rfl (congrArg bo hb16) rfl <| lx_off rfl rfl (congrArg bo hb16) rfl <| x_pf rfl hb16 (eB rfl) (k0 rfl) <| x_as (eB rfl) (k0 rfl) <| lx_nil, ⟨rfl, trivial⟩⟩
        · replace hq := condF hb13 hq
          replace hq := Option.some.inj hq
          subst hq
          exact ⟨_, _, x_mv (eT rfl) (k0 rfl) <| x_lnT T9 (eT rfl) (k0 rfl) <| x_ci (eX (.val (.int .i64 (p0.length : Int))) rfl) (eX (.val (.int .i64 1)) rfl) rfl (k0 rfl) <| x_mv (eB rfl) (k0 rfl) <| lx_off rfl rfl (congrArg bo hb13) rfl <| lx_off rfl rfl (congrArg bo hb13) rfl <| lx_off rfl rfl (congrArg bo hb13) rfl <| lx_off rfl rfl (congrArg bo hb13) rfl <| x_pf rfl hb13 (eB rfl) (k0 rfl) <| x_mv (eB rfl) (k0 rfl) <| lx_off rfl rfl rfl rfl <| lx_off rfl rfl rfl rfl <| lx_off rfl rfl rfl rfl <| lx_off rfl rfl rfl rfl <| x_pf rfl rfl (eB rfl) (k0 rfl) <| x_as (eB rfl) (k0 rfl) <| lx_nil, ⟨rfl, trivial⟩⟩) ?_
      refine cw_cond rfl (fun hb20 => ?_) (fun hb20 => ?_)
      · replace h := condT hb20 h
        refine cw_seq ?_
        obtain ⟨v21, hv21, h⟩ := bindE h
        obtain ⟨v22, hv22, h⟩ := bindE h
        obtain ⟨v23, hv23, h⟩ := bindE h
        obtain ⟨v24, hv24, h⟩ := bindE h
        obtain ⟨v25, hv25, h⟩ := bindE h
        refine cw_ra [] [] [] [7, 8, 9, 10] hnt rfl Tryz.mixed (by kernel_rfl) rfl (by decide) (x_mv (eT rfl) (k0 rfl) <| x_ixT T9 (eT rfl) rfl hv21 (k0 rfl) <| x_pu (eF rfl) P94 (c_dn_digit v21 v22 hv22) rfl (k0 rfl) <| x_sz (eZ rfl) (eZ rfl) hv23 (k0 rfl) <| x_mv (eT rfl) (k0 rfl) <| x_ixT T9 (eT rfl) rfl hv24 (k0 rfl) <| x_pu (eF rfl) P94 (c_dn_digit v24 v25 hv25) rfl (k0 rfl) <| x_ai (eI rfl) (eI rfl) rfl (k0 rfl) <| x_cvZU U3 W5 (eZ rfl) (k0 rfl) <| x_as (eU (toU8 (pbits .or .i64 v23 v25)) rfl) (k0 rfl) <| x_as (eI rfl) (k0 rfl) <| lx_nil) (cw_ret (cw_rb (cw_rc (cw_rn ?_))))
        cases h
        exact ⟨rfl, sub0⟩
      · replace h := condF hb20 h
        refine cw_skip (cw_blk (cw_seq (cw_rg hnt rfl (x_as (eU 0 rfl) (k0 rfl) <| x_as (eI rfl) (k0 rfl) <| lx_nil) (cw_ret (cw_rn ?_)))))
        cases h
        exact ⟨rfl, sub0⟩

theorem c_dn_value (p0 : Str) (r : Str × Str × Bool) (h : s_dn_value p0 = some r) : Pu Tryz.prog 45 [tx p0] (.tup [tx r.1, tx r.2.1, bo r.2.2]) := by
  refine ⟨(nfc nfv nfn), (NF.tup (nfc nfv (nfc nfv (nfc nfv nfn)))), fs_start _ _ Tryz.func45 rfl Tryz.ntmps45 Tryz.results45 rfl fun X hnt hn => ?_⟩
  rw [s_dn_value] at h
  refine cw_seq (cw_rg hnt rfl (x_as (eT rfl) (k0 rfl) <| x_as (eT rfl) (k0 rfl) <| x_as (eB rfl) (k0 rfl) <| lx_nil) (cw_seq (cw_rg hnt rfl (x_as (eV rfl) (k0 rfl) <| lx_nil) (cw_seq (cw_rg hnt rfl (x_as (eB rfl) (k0 rfl) <| lx_nil) (cw_seq (cw_rg hnt rfl (x_as (eI rfl) (k0 rfl) <| lx_nil) (cw_seq ?_))))))))
  refine cw_cut (fun st => ∃ (v74 : Bool) (v75 : Int) (v73 : Str), dn_value_k1 p0 v74 v75 v73 = some r ∧ st = ⟨ls [(0, tx p0), (5, .own 6 0 v73.length), (6, bo v74), (7, i64 v75)], hl [(6, ob (v73 : Str))], 17⟩) ?_ ?_
  · skip
    refine cw_block (cw_to (to_ren (N := 0) (n' := 7) (L := [(0, tx p0), (5, .own 6 0 0), (6, bo false), (7, i64 0)]) (H := [(6, ob ([] : Str))]) (id) [] [6] hn rfl rfl rfl fix0 .nil ⟨trv, (Tr.nilOwn rfl), trv, trv, trivial⟩ ⟨.inl ⟨rfl, rfl⟩, trivial⟩) ?_)
    refine cw_loop (fun g st => ∃ (v101 : Bool) (v102 : Int) (v100 : Str), dn_value_l1 p0 g v101 v102 v100 = some r ∧ st = ⟨ls [(0, tx p0), (5, .own 6 0 v100.length), (6, bo v101), (7, i64 v102)], hl [(6, ob (v100 : Str))], 7⟩) FUEL ⟨false, 0, [], h, rfl⟩ ?_
    rintro g _ ⟨v101, v102, v100, h, rfl⟩
    rcases g with _ | g1
    · rw [dn_value_l1] at h; cases h
    rw [dn_value_l1] at h
    refine cw_seq (cw_seq ?_)
    obtain ⟨v128, hq, h⟩ := bindE h
    refine cw_rl [(20, bo v128)] (D := [11, 12, 13, 14, 15, 16, 17, 18, 19, 20]) hnt rfl rfl (by
      rcases Bool.eq_false_or_eq_true ((decide (v102 < (p0.length : Int)))) with hb126 | hb126
      · replace hq := condT hb126 hq
        obtain ⟨v127, hv127, hq⟩ := bindE hq
        replace hq := Option.some.inj hq
        subst hq
        exact ⟨_, _, x_mv (eI rfl) (k0 rfl) <| x_mv (eT rfl) (k0 rfl) <| x_lnT T9 (eT rfl) (k0 rfl) <| x_ci (eX (.val (.int .i64 v102)) rfl) (eX (.val (.int .i64 (p0.length : Int))) rfl) rfl (k0 rfl) <| x_mv (eB rfl) (k0 rfl) <| x_mv (eT rfl) (k1 rfl rfl rfl (congrArg bo hb126)) <| x_mv (eI rfl) (k1 rfl rfl rfl (congrArg bo hb126)) <| x_ixT T9 (eT rfl) rfl hv127 (k1 rfl rfl rfl (congrArg bo hb126)) <| x_cu (eU v127 rfl) (eU 44 rfl) rfl (k1 rfl rfl rfl (congrArg bo hb126)) <| x_pt rfl hb126 (eB rfl) (k0 rfl) <| lx_nil, ⟨rfl, trivial⟩⟩
      · replace hq := condF hb126 hq
        replace hq := Option.some.inj hq
        subst hq
        exact ⟨_, _, x_mv (eI rfl) (k0 rfl) <| x_mv (eT rfl) (k0 rfl) <| x_lnT T9 (eT rfl) (k0 rfl) <| x_ci (eX (.val (.int .i64 v102)) rfl) (eX (.val (.int .i64 (p0.length : Int))) rfl) rfl (k0 rfl) <| x_mv (eB rfl) (k0 rfl) <| lx_off rfl rfl (congrArg bo hb126) rfl <| lx_off rfl rfl (congrArg bo hb126) rfl <| lx_off rfl rfl (congrArg bo hb126) rfl <| lx_off rfl rfl (congrArg bo hb126) rfl <| x_pf rfl hb126 (eB rfl) (k0 rfl) <| lx_nil, ⟨rfl, trivial⟩⟩) ?_
    refine cw_cond rfl (fun hb129 => ?_) (fun hb129 => ?_)
    · replace h := condT hb129 h
      refine cw_skip (cw_block (cw_seq ?_))
      obtain ⟨v130, hv130, h⟩ := bindE h
      refine cw_rg hnt rfl (x_mv (eT rfl) (k0 rfl) <| x_mv (eI rfl) (k0 rfl) <| x_ixT T9 (eT rfl) rfl hv130 (k0 rfl) <| x_as (eU v130 rfl) (k0 rfl) <| lx_nil) (cw_seq (cw_rg hnt rfl (x_mv (eU v130 rfl) (k0 rfl) <| x_cu (eU v130 rfl) (eU 32 rfl) rfl (k0 rfl) <| x_as (eB rfl) (k0 rfl) <| lx_nil) (cw_seq (cw_block (cw_seq (cw_rg hnt rfl (x_mv (eU v130 rfl) (k0 rfl) <| x_cu (eU v130 rfl) (eU 92 rfl) rfl (k0 rfl) <| x_as (eB rfl) (k0 rfl) <| lx_nil) ?_))))))
      refine cw_cond rfl (fun hb131 => ?_) (fun hb131 => ?_)
      · replace h := condT hb131 h
        refine cw_seq ?_
        obtain ⟨v132, hv132, h⟩ := bindE h
        obtain ⟨v133, hv133, h⟩ := bindE h
        obtain ⟨v134, hv134, h⟩ := bindE h
        refine cw_rg hnt rfl (x_mv (eT rfl) (k0 rfl) <| x_mv (eI rfl) (k0 rfl) <| x_ai (eI rfl) (eI rfl) hv132 (k0 rfl) <| x_slT T9 (eT rfl) rfl rfl hv133 (k0 rfl) <| x_pu (eF rfl) P76 (c_dn_escaped v133 v134 hv134) rfl (k0 rfl) <| x_mv (eW rfl) (k0 rfl) <| x_ex (eW rfl) (sX (u8 v134.1) rfl) (k0 rfl) <| x_ex (eW rfl) (sX (i64 v134.2) rfl) (k0 rfl) <| x_as (eU v134.1 rfl) (k0 rfl) <| x_as (eI rfl) (k0 rfl) <| lx_nil) (cw_seq (cw_seq (cw_rg hnt rfl (x_mv (eI rfl) (k0 rfl) <| x_ci (eX (.val (.int .i64 v134.2)) rfl) (eX (.val (.int .i64 0)) rfl) rfl (k0 rfl) <| lx_nil) ?_)))
        refine cw_cond rfl (fun hb135 => ?_) (fun hb135 => ?_)
        · replace h := condT hb135 h
          refine cw_seq (cw_rg hnt rfl (x_as (eT rfl) (k0 rfl) <| x_as (eT rfl) (k0 rfl) <| x_as (eB rfl) (k0 rfl) <| lx_nil) (cw_ret (cw_rc (cw_rb (cw_rc (cw_rb (cw_rt (cw_rb (cw_rt (cw_rc (cw_rn ?_)))))))))))
          cases h
          exact ⟨rfl, sub0⟩
        · replace h := condF hb135 h
          refine cw_skip (cw_seq (cw_rg hnt rfl (x_mv (eU v134.1 rfl) (k0 rfl) <| x_as (eU v134.1 rfl) (k0 rfl) <| lx_nil) ?_))
          obtain ⟨v136, hv136, h⟩ := bindE h
          refine cw_rg hnt rfl (x_mv (eI rfl) (k0 rfl) <| x_mv (eI rfl) (k0 rfl) <| x_ai (eI rfl) (eI rfl) hv136 (k0 rfl) <| x_as (eI rfl) (k0 rfl) <| lx_nil) (cw_blk (cw_seq ?_))
          obtain ⟨v137, hv137, h⟩ := bindE h
          refine cw_rg hnt rfl (x_mv (eO rfl) (k0 rfl) <| x_mv (eU v134.1 rfl) (k0 rfl) <| x_bsA ([v134.1] : Str) E38 rfl rfl (k0 rfl) <| x_apO (l1 := v100) E38 rfl rfl rfl (vlA' (l := ([v134.1] : Str)) rfl rfl) hv137 (k0 rfl) <| x_as (eO rfl) (k0 rfl) <| lx_nil) ?_
          obtain ⟨v138, hv138, h⟩ := bindE h
          refine cw_rg hnt rfl (x_mv (eI rfl) (k0 rfl) <| x_ai (eI rfl) (eI rfl) hv138 (k0 rfl) <| x_as (eI rfl) (k0 rfl) <| lx_nil) (cw_blk (cw_nil ?_))
          exact ⟨g1, _, Nat.lt_succ_self _, (to_ren (N := 0) (n' := 7) (L := [(0, tx p0), (5, .own 6 0 v137.length), (6, bo (v130 == 32)), (7, i64 v138)]) (H := [(6, ob (v137 : Str))]) (fun y => bif Nat.beq y 6 then 48 else y) [6] [] hn rfl rfl rfl fix0 (by decide) ⟨trv, (Tr.own rfl), trv, trv, trivial⟩ ⟨.inr ⟨rfl, _, rfl, tro⟩, trivial⟩), (v130 == 32), v138, v137, h, rfl⟩
      · replace h := condF hb131 h
        refine cw_seq ?_
        obtain ⟨v145, hq, h⟩ := bindE h
        refine cw_rl [(43, bo v145)] (D := [44, 45, 46, 47, 48, 49, 50, 51, 52, 53, 54, 55, 56, 57, 58, 59, 60, 61, 62, 63, 64, 65, 43]) hnt rfl rfl (by
          rcases Bool.eq_false_or_eq_true ((decide (v130 < 32))) with hb139 | hb139
          · replace hq := condT hb139 hq
            replace hq := Option.some.inj hq
            subst hq
            exact ⟨_, _, x_mv (eU v130 rfl) (k0 rfl) <| x_cu (eU v130 rfl) (eU 32 rfl) rfl (k0 rfl) <| x_mv (eB rfl) (k0 rfl) <| lx_off rfl rfl (congrArg bo hb139) rfl <| lx_off rfl rfl (congrArg bo hb139) rfl <| x_pt rfl hb139 (eB rfl) (k0 rfl) <| x_mv (eB rfl) (k0 rfl) <| lx_off rfl rfl rfl rfl <| lx_off rfl rfl rfl rfl <| x_pt rfl rfl (eB rfl) (k0 rfl) <| x_mv (eB rfl) (k0 rfl) <| lx_off rfl rfl rfl rfl <| lx_off rfl rfl rfl rfl <| lx_off rfl rfl rfl rfl <| lx_dead rfl rfl rfl rfl <| lx_dead rfl rfl rfl rfl <| lx_dead rfl rfl rfl rfl <| lx_dead rfl rfl rfl rfl <| lx_dead rfl rfl rfl rfl <| lx_dead rfl rfl rfl rfl <| lx_off rfl rfl rfl rfl <| x_pt rfl rfl (eB rfl) (k0 rfl) <| x_as (eB rfl) (k0 rfl) <| lx_nil, ⟨rfl, trivial⟩⟩
          · replace hq := condF hb139 hq
            rcases Bool.eq_false_or_eq_true ((decide (126 < v130))) with hb140 | hb140
            · replace hq := condT hb140 hq
              replace hq := Option.some.inj hq
              subst hq
              exact ⟨_, _, x_mv (eU v130 rfl) (k0 rfl) <| x_cu (eU v130 rfl) (eU 32 rfl) rfl (k0 rfl) <| x_mv (eB rfl) (k0 rfl) <| x_mv (eU v130 rfl) (k1 rfl rfl rfl (congrArg bo hb139)) <| x_cu (eU v130 rfl) (eU 126 rfl) rfl (k1 rfl rfl rfl (congrArg bo hb139)) <| x_pf rfl hb139 (eB rfl) (k0 rfl) <| x_mv (eB rfl) (k0 rfl) <| lx_off rfl rfl (congrArg bo hb140) rfl <| lx_off rfl rfl (congrArg bo hb140) rfl <| x_pt rfl hb140 (eB rfl) (k0 rfl) <| x_mv (eB rfl) (k0 rfl) <| lx_off rfl rfl rfl rfl <| lx_off rfl rfl rfl rfl <| lx_off rfl rfl rfl rfl <| lx_dead rfl rfl rfl rfl <| lx_dead rfl rfl rfl rfl <| lx_dead rfl rfl rfl rfl <| lx_dead rfl rfl rfl rfl <| lx_dead rfl rfl rfl rfl <| lx_dead rfl rfl rfl rfl <| lx_off rfl rfl rfl rfl <| x_pt rfl rfl (eB rfl) (k0 rfl) <| x_as (eB rfl) (k0 rfl) <| lx_nil, ⟨rfl, trivial⟩⟩
            · replace hq := condF hb140 hq
              obtain ⟨v141, hv141, hq⟩ := bindE hq
              rcases Bool.eq_false_or_eq_true (v141) with hb142 | hb142
              · replace hq := condT hb142 hq
                replace hq := Option.some.inj hq
                subst hq
                exact ⟨_, _, x_mv (eU v130 rfl) (k0 rfl) <| x_cu (eU v130 rfl) (eU 32 rfl) rfl (k0 rfl) <| x_mv (eB rfl) (k0 rfl) <| x_mv (eU v130 rfl) (k1 rfl rfl rfl (congrArg bo hb139)) <| x_cu (eU v130 rfl) (eU 126 rfl) rfl (k1 rfl rfl rfl (congrArg bo hb139)) <| x_pf rfl hb139 (eB rfl) (k0 rfl) <| x_mv (eB rfl) (k0 rfl) <| x_mv (eU v130 rfl) (k1 rfl rfl rfl (congrArg bo hb140)) <| x_pu (eF rfl) P77 (c_dn_special v130 v141 hv141) rfl (k1 rfl rfl rfl (congrArg bo hb140)) <| x_pf rfl hb140 (eB rfl) (k0 rfl) <| x_mv (eB rfl) (k0 rfl) <| lx_off rfl rfl (congrArg bo hb142) rfl <| lx_off rfl rfl (congrArg bo hb142) rfl <| lx_off rfl rfl (congrArg bo hb142) rfl <| lx_dead rfl rfl rfl rfl <| lx_dead rfl rfl rfl rfl <| lx_dead rfl rfl rfl rfl <| lx_dead rfl rfl rfl rfl <| lx_dead rfl rfl rfl rfl <| lx_dead rfl rfl rfl rfl <| lx_off rfl rfl (congrArg bo hb142) rfl <| x_pt rfl hb142 (eB rfl) (k0 rfl) <| x_as (eB rfl) (k0 rfl) <| lx_nil, ⟨rfl, trivial⟩⟩
              · replace hq := condF hb142 hq
                rcases Bool.eq_false_or_eq_true ((v102 == 0)) with hb143 | hb143
                · replace hq := condT hb143 hq
                  rcases Bool.eq_false_or_eq_true ((v130 == 35)) with hb144 | hb144
                  · replace hq := condT hb144 hq
                    replace hq := Option.some.inj hq
                    subst hq
                    exact ⟨_, _, x_mv (eU v130 rfl) (k0 rfl) <| x_cu (eU v130 rfl) (eU 32 rfl) rfl (k0 rfl) <| x_mv (eB rfl) (k0 rfl) <| x_mv (eU v130 rfl) (k1 rfl rfl rfl (congrArg bo hb139)) <| x_cu (eU v130 rfl) (eU 126 rfl) rfl (k1 rfl rfl rfl (congrArg bo hb139)) <| x_pf rfl hb139 (eB rfl) (k0 rfl) <| x_mv (eB rfl) (k0 rfl) <| x_mv (eU v130 rfl) (k1 rfl rfl rfl (congrArg bo hb140)) <| x_pu (eF rfl) P77 (c_dn_special v130 v141 hv141) rfl (k1 rfl rfl rfl (congrArg bo hb140)) <| x_pf rfl hb140 (eB rfl) (k0 rfl) <| x_mv (eB rfl) (k0 rfl) <| x_mv (eI rfl) (k1 rfl rfl rfl (congrArg bo hb142)) <| x_ci (eX (.val (.int .i64 v102)) rfl) (eX (.val (.int .i64 0)) rfl) rfl (k1 rfl rfl rfl (congrArg bo hb142)) <| x_mv (eB rfl) (k1 rfl rfl rfl (congrArg bo hb142)) <| x_mv (eU v130 rfl) (k1 rfl rfl rfl (congrArg bo hb143)) <| x_cu (eU v130 rfl) (eU 35 rfl) rfl (k1 rfl rfl rfl (congrArg bo hb143)) <| x_mv (eB rfl) (k1 rfl rfl rfl (congrArg bo hb143)) <| lx_off rfl rfl (congrArg bo hb144) rfl <| lx_off rfl rfl (congrArg bo hb144) rfl <| x_pt rfl hb144 (eB rfl) (k1 rfl rfl rfl (congrArg bo hb143)) <| x_pt rfl hb143 (eB rfl) (k1 rfl rfl rfl (congrArg bo hb142)) <| x_pf rfl hb142 (eB rfl) (k0 rfl) <| x_as (eB rfl) (k0 rfl) <| lx_nil, ⟨rfl, trivial⟩⟩
                  · replace hq := condF hb144 hq
                    replace hq := Option.some.inj hq
                    subst hq
                    exact ⟨_, _, x_mv (eU v130 rfl) (k0 rfl) <| x_cu (eU v130 rfl) (eU 32 rfl) rfl (k0 rfl) <| x_mv (eB rfl) (k0 rfl) <| x_mv (eU v130 rfl) (k1 rfl rfl rfl (congrArg bo hb139)) <| x_cu (eU v130 rfl) (eU 126 rfl) rfl (k1 rfl rfl rfl (congrArg bo hb139)) <| x_pf rfl hb139 (eB rfl) (k0 rfl) <| x_mv (eB rfl) (k0 rfl) <| x_mv (eU v130 rfl) (k1 rfl rfl rfl (congrArg bo hb140)) <| x_pu (eF rfl) P77 (c_dn_special v130 v141 hv141) rfl (k1 rfl rfl rfl (congrArg bo hb140)) <| x_pf rfl hb140 (eB rfl) (k0 rfl) <| x_mv (eB rfl) (k0 rfl) <| x_mv (eI rfl) (k1 rfl rfl rfl (congrArg bo hb142)) <| x_ci (eX (.val (.int .i64 v102)) rfl) (eX (.val (.int .i64 0)) rfl) rfl (k1 rfl rfl rfl (congrArg bo hb142)) <| x_mv (eB rfl) (k1 rfl rfl rfl (congrArg bo hb142)) <| x_mv (eU v130 rfl) (k1 rfl rfl rfl (congrArg bo hb143)) <| x_cu (eU v130 rfl) (eU 35 rfl) rfl (k1 rfl rfl rfl (congrArg bo hb143)) <| x_mv (eB rfl) (k1 rfl rfl rfl (congrArg bo hb143)) <| x_mv (eU v130 rfl) (k1 rfl rfl rfl (congrArg bo hb144)) <| x_cu (eU v130 rfl) (eU 32 rfl) rfl (k1 rfl rfl rfl (congrArg bo hb144)) <| x_pf rfl hb144 (eB rfl) (k1 rfl rfl rfl (congrArg bo hb143)) <| x_pt rfl hb143 (eB rfl) (k1 rfl rfl rfl (congrArg bo hb142)) <| x_pf rfl hb142 (eB rfl) (k0 rfl) <| x_as (eB rfl) (k0 rfl) <| lx_nil, ⟨rfl, trivial⟩⟩
                · replace hq := condF hb143 hq
                  replace hq := Option.some.inj hq
                  subst hq
                  exact ⟨_, _, x_mv (eU v130 rfl) (k0 rfl) <| x_cu (eU v130 rfl) (eU 32 rfl) rfl (k0 rfl) <| x_mv (eB rfl) (k0 rfl) <| x_mv (eU v130 rfl) (k1 rfl rfl rfl (congrArg bo hb139)) <| x_cu (eU v130 rfl) (eU 126 rfl) rfl (k1 rfl rfl rfl (congrArg bo hb139)) <| x_pf rfl hb139 (eB rfl) (k0 rfl) <| x_mv (eB rfl) (k0 rfl) <| x_mv (eU v130 rfl) (k1 rfl rfl rfl (congrArg bo hb140)) <| x_pu (eF rfl) P77 (c_dn_special v130 v141 hv141) rfl (k1 rfl rfl rfl (congrArg bo hb140)) <| x_pf rfl hb140 (eB rfl) (k0 rfl) <| x_mv (eB rfl) (k0 rfl) <| x_mv (eI rfl) (k1 rfl rfl rfl (congrArg bo hb142)) <| x_ci (eX (.val (.int .i64 v102)) rfl) (eX (.val (.int .i64 0)) rfl) rfl (k1 rfl rfl rfl (congrArg bo hb142)) <| x_mv (eB rfl) (k1 rfl rfl rfl (congrArg bo hb142)) <| lx_off rfl rfl (congrArg bo hb143) rfl <| lx_off rfl rfl (congrArg bo hb143) rfl <| lx_off rfl rfl (congrArg bo hb143) rfl <| lx_dead rfl rfl rfl rfl <| lx_dead rfl rfl rfl rfl <| lx_off rfl rfl (congrArg bo hb143) rfl <| x_pf rfl hb143 (eB rfl) (k1 rfl rfl rfl (congrArg bo hb142)) <| x_pf rfl hb142 (eB rfl) (k0 rfl) <| x_as (eB rfl) (k0 rfl) <| lx_nil, ⟨rfl, trivial⟩⟩) ?_
        refine cw_cond rfl (fun hb146 => ?_) (fun hb146 => ?_)
        · replace h := condT hb146 h
          refine cw_seq (cw_rg hnt rfl (x_as (eT rfl) (k0 rfl) <| x_as (eT rfl) (k0 rfl) <| x_as (eB rfl) (k0 rfl) <| lx_nil) (cw_ret (cw_rb (cw_rc (cw_rb (cw_rt (cw_rb (cw_rt (cw_rc (cw_rn ?_))))))))))
          cases h
          exact ⟨rfl, sub0⟩
        · replace h := condF hb146 h
          refine cw_skip (cw_blk (cw_seq ?_))
          obtain ⟨v147, hv147, h⟩ := bindE h
          refine cw_rg hnt rfl (x_mv (eO rfl) (k0 rfl) <| x_mv (eU v130 rfl) (k0 rfl) <| x_bsA ([v130] : Str) E38 rfl rfl (k0 rfl) <| x_apO (l1 := v100) E38 rfl rfl rfl (vlA' (l := ([v130] : Str)) rfl rfl) hv147 (k0 rfl) <| x_as (eO rfl) (k0 rfl) <| lx_nil) ?_
          obtain ⟨v148, hv148, h⟩ := bindE h
          refine cw_rg hnt rfl (x_mv (eI rfl) (k0 rfl) <| x_ai (eI rfl) (eI rfl) hv148 (k0 rfl) <| x_as (eI rfl) (k0 rfl) <| lx_nil) (cw_blk (cw_nil ?_))
          exact ⟨g1, _, Nat.lt_succ_self _, (to_ren (N := 0) (n' := 7) (L := [(0, tx p0), (5, .own 6 0 v147.length), (6, bo (v130 == 32)), (7, i64 v148)]) (H := [(6, ob (v147 : Str))]) (fun y => bif Nat.beq y 6 then 53 else y) [6] [] hn rfl rfl rfl fix0 (by decide) ⟨trv, (Tr.own rfl), trv, trv, trivial⟩ ⟨.inr ⟨rfl, _, rfl, tro⟩, trivial⟩), (v130 == 32), v148, v147, h, rfl⟩
    · replace h := condF hb129 h
      refine cw_exit (cw_xc (cw_xt (cw_xb (cw_nil ?_))))
      exact ⟨_, (to_ren (N := 0) (n' := 17) (L := [(0, tx p0), (5, .own 6 0 v100.length), (6, bo v101), (7, i64 v102)]) (H := [(6, ob (v100 : Str))]) (id) [6] [] hn rfl rfl rfl fix0 (by decide) ⟨trv, (Tr.own rfl), trv, trv, trivial⟩ ⟨.inr ⟨rfl, _, rfl, tro⟩, trivial⟩), v101, v102, v100, h, rfl⟩
  · rintro _ ⟨v74, v75, v73, h, rfl⟩
    rw [dn_value_k1] at h
    refine cw_seq ?_
    obtain ⟨v76, hv76, h⟩ := bindE h
    refine cw_ra [] [] [] [9] hnt rfl Tryz.mixed (by kernel_rfl) rfl (by decide) (x_mv (eO rfl) (k0 rfl) <| x_tos (s := v73) Y38 T9 rfl rfl (k0 rfl) <| x_mv (eT rfl) (k0 rfl) <| x_mv (eI rfl) (k0 rfl) <| x_slT T9 (eT rfl) rfl rfl hv76 (k0 rfl) <| x_mv (eB rfl) (k0 rfl) <| x_not (eB rfl) (k0 rfl) <| x_as (eT rfl) (k0 rfl) <| x_as (eT rfl) (k0 rfl) <| x_as (eB rfl) (k0 rfl) <| lx_nil) (cw_ret (cw_rn ?_))
    cases h
    exact ⟨rfl, sub0⟩

theorem c_dn_May (p0 : List T_Rdn) (r : Bool) (h : s_dn_May p0 = some r) : Pu Tryz.prog 46 [ar p0] (bo r) := by
  refine ⟨(nfc nfa nfn), nfv, fs_start _ _ Tryz.func46 rfl Tryz.ntmps46 Tryz.results46 rfl fun X hnt hn => ?_⟩
  rw [s_dn_May] at h
  refine cw_seq (cw_rg hnt rfl (x_as (eB rfl) (k0 rfl) <| lx_nil) (cw_seq (cw_seq (cw_rg hnt rfl (x_mv (eA rfl) (k0 rfl) <| x_lnA E50 (eX (ar p0) rfl) (k0 rfl) <| x_mv (eI rfl) (k0 rfl) <| lx_nil) ?_))))
  refine cw_cut (fun st => dn_May_k1 p0 = some r ∧ st = ⟨ls [(0, ar p0)], hl [], 5⟩) ?_ ?_
  · skip
    refine cw_block (cw_to (to_ren (N := 0) (n' := 4) (L := [(0, ar p0), (5, ar p0), (6, i64 (p0.length : Int)), (7, i64 0)]) (H := []) (id) [] [] hn rfl rfl rfl fix0 .nil ⟨tra, tra, trv, trv, trivial⟩ trivial) ?_)
    refine cw_loop (fun g st => ∃ (v34 : Int), dn_May_l1 p0 g v34 = some r ∧ st = ⟨ls [(0, ar p0), (5, ar p0), (6, i64 (p0.length : Int)), (7, i64 v34)], hl [], 4⟩) FUEL ⟨0, h, rfl⟩ ?_
    rintro g _ ⟨v34, h, rfl⟩
    rcases g with _ | g1
    · rw [dn_May_l1] at h; cases h
    rw [dn_May_l1] at h
    refine cw_seq (cw_rg hnt rfl (x_ci (eX (.val (.int .i64 v34)) rfl) (eX (.val (.int .i64 (p0.length : Int))) rfl) rfl (k0 rfl) <| lx_nil) (cw_seq ?_))
    refine cw_cond rfl (fun hb43 => ?_) (fun hb43 => ?_)
    · replace h := condT hb43 h
      refine cw_skip (cw_seq (cw_block (cw_seq ?_)))
      obtain ⟨v44, hv44, h⟩ := bindE h
      refine cw_rg hnt rfl (x_ia E50 rfl (eX (ar p0) rfl) rfl hv44 (k0 rfl) <| x_ld L49 (eQ rfl) rfl (sX (.agg [tx v44.Typ, tx v44.Val]) rfl) (k0 rfl) <| x_al Z49 (k0 rfl) <| x_st L49 (eP rfl) rfl rfl rfl rfl (k0 rfl) <| lx_nil) (cw_seq ?_)
      obtain ⟨v48, hq, h⟩ := bindE h
      refine cw_rl [(25, bo v48)] (D := [11, 12, 13, 14, 15, 16, 17, 18, 19, 20, 21, 22, 23, 24, 25]) hnt rfl rfl (by
        obtain ⟨v45, hv45, hq⟩ := bindE hq
        rcases Bool.eq_false_or_eq_true ((!v45)) with hb46 | hb46
        · replace hq := condT hb46 hq
          replace hq := Option.some.inj hq
          subst hq
          exact ⟨_, _, x_fp F49_0 (eP rfl) (k0 rfl) <| x_ld L9 (eP rfl) rfl (sX (tx v44.Typ) rfl) (k0 rfl) <| x_pu (eF rfl) P44 (c_dn_typed v44.Typ v45 hv45) rfl (k0 rfl) <| x_not (eB rfl) (k0 rfl) <| x_mv (eB rfl) (k0 rfl) <| lx_off rfl rfl (congrArg bo hb46) rfl <| lx_off rfl rfl (congrArg bo hb46) rfl <| lx_off rfl rfl (congrArg bo hb46) rfl <| x_pt rfl hb46 (eB rfl) (k0 rfl) <| x_mv (eB rfl) (k0 rfl) <| lx_off rfl rfl rfl rfl <| lx_off rfl rfl rfl rfl <| lx_off rfl rfl rfl rfl <| lx_off rfl rfl rfl rfl <| x_pt rfl rfl (eB rfl) (k0 rfl) <| lx_nil, ⟨rfl, trivial⟩⟩
        · replace hq := condF hb46 hq
          rcases Bool.eq_false_or_eq_true ((v44.Val == [])) with hb47 | hb47
          · replace hq := condT hb47 hq
            replace hq := Option.some.inj hq
            subst hq
            exact ⟨_, _, x_fp F49_0 (eP rfl) (k0 rfl) <| x_ld L9 (eP rfl) rfl (sX (tx v44.Typ) rfl) (k0 rfl) <| x_pu (eF rfl) P44 (c_dn_typed v44.Typ v45 hv45) rfl (k0 rfl) <| x_not (eB rfl) (k0 rfl) <| x_mv (eB rfl) (k0 rfl) <| x_fp F49_1 (eP rfl) (k1 rfl rfl rfl (congrArg bo hb46)) <| x_ld L9 (eP rfl) rfl (sX (tx v44.Val) rfl) (k1 rfl rfl rfl (congrArg bo hb46)) <| x_ct (eT rfl) (eT rfl) rfl (k1 rfl rfl rfl (congrArg bo hb46)) <| x_pf rfl hb46 (eB rfl) (k0 rfl) <| x_mv (eB rfl) (k0 rfl) <| lx_off rfl rfl (congrArg bo hb47) rfl <| lx_off rfl rfl (congrArg bo hb47) rfl <| lx_off rfl rfl (congrArg bo hb47) rfl <| lx_off rfl rfl (congrArg bo hb47) rfl <| x_pt rfl hb47 (eB rfl) (k0 rfl) <| lx_nil, ⟨rfl, trivial⟩⟩
          · replace hq := condF hb47 hq
            replace hq := Option.some.inj hq
            subst hq
            exact ⟨_, _, x_fp F49_0 (eP rfl) (k0 rfl) <| x_ld L9 (eP rfl) rfl (sX (tx v44.Typ) rfl) (k0 rfl) <| x_pu (eF rfl) P44 (c_dn_typed v44.Typ v45 hv45) rfl (k0 rfl) <| x_not (eB rfl) (k0 rfl) <| x_mv (eB rfl) (k0 rfl) <| x_fp F49_1 (eP rfl) (k1 rfl rfl rfl (congrArg bo hb46)) <| x_ld L9 (eP rfl) rfl (sX (tx v44.Val) rfl) (k1 rfl rfl rfl (congrArg bo hb46)) <| x_ct (eT rfl) (eT rfl) rfl (k1 rfl rfl rfl (congrArg bo hb46)) <| x_pf rfl hb46 (eB rfl) (k0 rfl) <| x_mv (eB rfl) (k0 rfl) <| x_fp F49_1 (eP rfl) (k1 rfl rfl rfl (congrArg bo hb47)) <| x_ld L9 (eP rfl) rfl (sX (tx v44.Val) rfl) (k1 rfl rfl rfl (congrArg bo hb47)) <| x_lnT T9 (eT rfl) (k1 rfl rfl rfl (congrArg bo hb47)) <| x_ci (eX (.val (.int .i64 (v44.Val.length : Int))) rfl) (eX (.val (.int .i64 100)) rfl) rfl (k1 rfl rfl rfl (congrArg bo hb47)) <| x_pf rfl hb47 (eB rfl) (k0 rfl) <| lx_nil, ⟨rfl, trivial⟩⟩) ?_
      refine cw_cond rfl (fun hb49 => ?_) (fun hb49 => ?_)
      · replace h := condT hb49 h
        refine cw_seq (cw_rg hnt rfl (x_as (eB rfl) (k0 rfl) <| lx_nil) (cw_ret (cw_rb (cw_rc (cw_rt (cw_rb (cw_rt (cw_rc (cw_rn ?_)))))))))
        cases h
        exact ⟨rfl, sub0⟩
      · replace h := condF hb49 h
        refine cw_skip (cw_blk ?_)
        obtain ⟨v50, hv50, h⟩ := bindE h
        refine cw_rg hnt rfl (x_ai (eI rfl) (eI rfl) hv50 (k0 rfl) <| x_mv (eI rfl) (k0 rfl) <| lx_nil) (cw_nil ?_)
        exact ⟨g1, _, Nat.lt_succ_self _, (to_ren (N := 0) (n' := 4) (L := [(0, ar p0), (5, ar p0), (6, i64 (p0.length : Int)), (7, i64 v50)]) (H := []) (id) [] [] hn rfl rfl rfl fix0 .nil ⟨tra, tra, trv, trv, trivial⟩ trivial), v50, h, rfl⟩
    · replace h := condF hb43 h
      refine cw_exit (cw_xc (cw_xt (cw_xb (cw_nil ?_))))
      exact ⟨_, (to_ren (N := 0) (n' := 5) (L := [(0, ar p0)]) (H := []) (id) [] [] hn rfl rfl rfl fix0 .nil ⟨tra, trivial⟩ trivial), h, rfl⟩
  · rintro _ ⟨h, rfl⟩
    rw [dn_May_k1] at h
    refine cw_seq (cw_rg hnt rfl (x_mv (eA rfl) (k0 rfl) <| x_lnA E50 (eX (ar p0) rfl) (k0 rfl) <| x_ci (eX (.val (.int .i64 (p0.length : Int))) rfl) (eX (.val (.int .i64 8)) rfl) rfl (k0 rfl) <| x_as (eB rfl) (k0 rfl) <| lx_nil) (cw_ret (cw_rn ?_)))
    cases h
    exact ⟨rfl, sub0⟩

theorem c_dn_Parse (p0 : Str) (r : List T_Rdn × Bool) (h : s_dn_Parse p0 = some r) : Nw Tryz.prog 28 [tx p0] (fun id => .tup [.own id 0 r.1.length, bo r.2]) (ob r.1) := by
  refine ⟨(nfc nfv nfn), nfob, 0, fs_start _ _ Tryz.func28 rfl Tryz.ntmps28 Tryz.results28 rfl fun X hnt hn => ?_, (Fam.tup (.cons Fam.own (.cons (Fam.nf nfv) .nil)))⟩
  rw [s_dn_Parse] at h
  refine cw_seq (cw_rg hnt rfl (x_as (eV rfl) (k0 rfl) <| x_as (eB rfl) (k0 rfl) <| lx_nil) (cw_seq (cw_rg hnt rfl (x_as (eV rfl) (k0 rfl) <| lx_nil) (cw_seq (cw_seq (cw_rg hnt rfl (x_mv (eT rfl) (k0 rfl) <| x_ct (eT rfl) (eT rfl) rfl (k0 rfl) <| x_as (eB rfl) (k0 rfl) <| lx_nil) ?_))))))
  refine cw_cut (fun st => ∃ (v40 : List T_Rdn), dn_Parse_k1 v40 = some r ∧ st = ⟨ls [(4, .own 6 0 v40.length)], hl [(6, ob (v40 : List T_Rdn))], 8⟩) ?_ ?_
  · skip
    refine cw_block (cw_to (to_ren (N := 0) (n' := 7) (L := [(0, tx p0), (4, .own 6 0 0), (5, bo (!(p0 == [])))]) (H := [(6, ob ([] : List T_Rdn))]) (id) [] [6] hn rfl rfl rfl fix0 .nil ⟨trv, (Tr.nilOwn rfl), trv, trivial⟩ ⟨.inl ⟨rfl, rfl⟩, trivial⟩) ?_)
    refine cw_loop (fun g st => ∃ (v55 : Str) (v57 : Bool) (v56 : List T_Rdn), dn_Parse_l1 g v55 v57 v56 = some r ∧ st = ⟨ls [(0, tx v55), (4, .own 6 0 v56.length), (5, bo v57)], hl [(6, ob (v56 : List T_Rdn))], 7⟩) FUEL ⟨p0, (!(p0 == [])), [], h, rfl⟩ ?_
    rintro g _ ⟨v55, v57, v56, h, rfl⟩
    rcases g with _ | g1
    · rw [dn_Parse_l1] at h; cases h
    rw [dn_Parse_l1] at h
    refine cw_seq (cw_seq (cw_rg hnt rfl (x_mv (eB rfl) (k0 rfl) <| lx_nil) ?_))
    refine cw_cond rfl (fun hb70 => ?_) (fun hb70 => ?_)
    · replace h := condT hb70 h
      refine cw_skip (cw_block (cw_seq ?_))
      obtain ⟨v71, hv71, h⟩ := bindE h
      refine cw_rg hnt rfl (x_mv (eT rfl) (k0 rfl) <| x_pu (eF rfl) P43 (c_strings_Cut v55 k_x3d v71 hv71) rfl (k0 rfl) <| x_mv (eW rfl) (k0 rfl) <| x_ex (eW rfl) (sX (tx v71.1) rfl) (k0 rfl) <| x_ex (eW rfl) (sX (tx v71.2.1) rfl) (k0 rfl) <| x_ex (eW rfl) (sX (bo v71.2.2) rfl) (k0 rfl) <| x_as (eT rfl) (k0 rfl) <| x_as (eT rfl) (k0 rfl) <| x_as (eB rfl) (k0 rfl) <| lx_nil) (cw_seq (cw_seq ?_))
      obtain ⟨v75, hq, h⟩ := bindE h
      refine cw_rl [(30, bo v75)] (D := [19, 20, 21, 22, 23, 24, 25, 26, 27, 28, 29, 30]) hnt rfl rfl (by
        rcases Bool.eq_false_or_eq_true ((!v71.2.2)) with hb72 | hb72
        · replace hq := condT hb72 hq
          replace hq := Option.some.inj hq
          subst hq
          exact ⟨_, _, x_mv (eB rfl) (k0 rfl) <| x_not (eB rfl) (k0 rfl) <| x_mv (eB rfl) (k0 rfl) <| lx_off rfl rfl (congrArg bo hb72) rfl <| lx_off rfl rfl (congrArg bo hb72) rfl <| lx_off rfl rfl (congrArg bo hb72) rfl <| x_pt rfl hb72 (eB rfl) (k0 rfl) <| x_mv (eB rfl) (k0 rfl) <| lx_off rfl rfl rfl rfl <| lx_off rfl rfl rfl rfl <| lx_off rfl rfl rfl rfl <| x_pt rfl rfl (eB rfl) (k0 rfl) <| lx_nil, ⟨rfl, trivial⟩⟩
        · replace hq := condF hb72 hq
          obtain ⟨v73, hv73, hq⟩ := bindE hq
          rcases Bool.eq_false_or_eq_true ((!v73)) with hb74 | hb74
          · replace hq := condT hb74 hq
            replace hq := Option.some.inj hq
            subst hq
            exact ⟨_, _, x_mv (eB rfl) (k0 rfl) <| x_not (eB rfl) (k0 rfl) <| x_mv (eB rfl) (k0 rfl) <| x_mv (eT rfl) (k1 rfl rfl rfl (congrArg bo hb72)) <| x_pu (eF rfl) P44 (c_dn_typed v71.1 v73 hv73) rfl (k1 rfl rfl rfl (congrArg bo hb72)) <| x_not (eB rfl) (k1 rfl rfl rfl (congrArg bo hb72)) <| x_pf rfl hb72 (eB rfl) (k0 rfl) <| x_mv (eB rfl) (k0 rfl) <| lx_off rfl rfl (congrArg bo hb74) rfl <| lx_off rfl rfl (congrArg bo hb74) rfl <| lx_off rfl rfl (congrArg bo hb74) rfl <| x_pt rfl hb74 (eB rfl) (k0 rfl) <| lx_nil, ⟨rfl, trivial⟩⟩
          · replace hq := condF hb74 hq
            replace hq := Option.some.inj hq
            subst hq
            exact ⟨_, _, x_mv (eB rfl) (k0 rfl) <| x_not (eB rfl) (k0 rfl) <| x_mv (eB rfl) (k0 rfl) <| x_mv (eT rfl) (k1 rfl rfl rfl (congrArg bo hb72)) <| x_pu (eF rfl) P44 (c_dn_typed v71.1 v73 hv73) rfl (k1 rfl rfl rfl (congrArg bo hb72)) <| x_not (eB rfl) (k1 rfl rfl rfl (congrArg bo hb72)) <| x_pf rfl hb72 (eB rfl) (k0 rfl) <| x_mv (eB rfl) (k0 rfl) <| x_mv (eO rfl) (k1 rfl rfl rfl (congrArg bo hb74)) <| x_ln (n := v56.length) E50 rfl (k1 rfl rfl rfl (congrArg bo hb74)) <| x_ci (eX (.val (.int .i64 (v56.length : Int))) rfl) (eX (.val (.int .i64 8)) rfl) rfl (k1 rfl rfl rfl (congrArg bo hb74)) <| x_pf rfl hb74 (eB rfl) (k0 rfl) <| lx_nil, ⟨rfl, trivial⟩⟩) ?_
      refine cw_cond rfl (fun hb76 => ?_) (fun hb76 => ?_)
      · replace h := condT hb76 h
        refine cw_seq (cw_rg hnt rfl (x_as (eV rfl) (k0 rfl) <| x_as (eB rfl) (k0 rfl) <| lx_nil) (cw_to (to_ren (N := 0) (n' := 31) (L := [(2, .own 0 0 0), (3, bo false)]) (H := [(0, ob ([] : List T_Rdn))]) (id) [] [0] hn rfl rfl rfl fix0 .nil ⟨(Tr.nilOwn rfl), trv, trivial⟩ ⟨.inl ⟨rfl, rfl⟩, trivial⟩) (cw_ret (cw_rc (cw_rb (cw_rt (cw_rb (cw_rt (cw_rc (cw_rn ?_))))))))))
        cases h
        exact ⟨rfl, sub1 rfl⟩
      · replace h := condF hb76 h
        refine cw_skip (cw_seq (cw_rg hnt rfl (x_mv (eT rfl) (k0 rfl) <| x_bd B49 (sX3 ([tx v71.1, tx []]) rfl) (k0 rfl) <| x_al Z49 (k0 rfl) <| x_st L49 (eP rfl) rfl rfl rfl rfl (k0 rfl) <| lx_nil) (cw_seq (cw_seq ?_))))
        obtain ⟨v77, hv77, h⟩ := bindE h
        refine cw_rg hnt rfl (x_mv (eT rfl) (k0 rfl) <| x_pu (eF rfl) P45 (c_dn_value v71.2.1 v77 hv77) rfl (k0 rfl) <| x_mv (eW rfl) (k0 rfl) <| x_ex (eW rfl) (sX (tx v77.1) rfl) (k0 rfl) <| x_ex (eW rfl) (sX (tx v77.2.1) rfl) (k0 rfl) <| x_ex (eW rfl) (sX (bo v77.2.2) rfl) (k0 rfl) <| x_fp F49_1 (eP rfl) (k0 rfl) <| x_st L9 (eP rfl) rfl rfl rfl rfl (k0 rfl) <| x_as (eT rfl) (k0 rfl) <| x_as (eB rfl) (k0 rfl) <| lx_nil) (cw_seq (cw_rg hnt rfl (x_mv (eB rfl) (k0 rfl) <| x_not (eB rfl) (k0 rfl) <| lx_nil) ?_))
        refine cw_cond rfl (fun hb78 => ?_) (fun hb78 => ?_)
        · replace h := condT hb78 h
          refine cw_seq (cw_rg hnt rfl (x_as (eV rfl) (k0 rfl) <| x_as (eB rfl) (k0 rfl) <| lx_nil) (cw_to (to_ren (N := 0) (n' := 47) (L := [(2, .own 0 0 0), (3, bo false)]) (H := [(0, ob ([] : List T_Rdn))]) (id) [] [0] hn rfl rfl rfl fix0 .nil ⟨(Tr.nilOwn rfl), trv, trivial⟩ ⟨.inl ⟨rfl, rfl⟩, trivial⟩) (cw_ret (cw_rc (cw_rb (cw_rt (cw_rb (cw_rt (cw_rc (cw_rn ?_))))))))))
          cases h
          exact ⟨rfl, sub1 rfl⟩
        · replace h := condF hb78 h
          refine cw_skip (cw_seq ?_)
          obtain ⟨v79, hv79, h⟩ := bindE h
          refine cw_rg hnt rfl (x_mv (eO rfl) (k0 rfl) <| x_ld L49 (eP rfl) rfl (sX (.agg [tx v71.1, tx v77.1]) rfl) (k0 rfl) <| x_bsA ([(⟨v71.1, v77.1⟩ : T_Rdn)] : List T_Rdn) E50 rfl rfl (k0 rfl) <| x_apO (l1 := v56) E50 rfl rfl rfl (vlA' (l := ([(⟨v71.1, v77.1⟩ : T_Rdn)] : List T_Rdn)) rfl rfl) hv79 (k0 rfl) <| x_as (eO rfl) (k0 rfl) <| lx_nil) (cw_seq (cw_rg hnt rfl (x_mv (eT rfl) (k0 rfl) <| x_ct (eT rfl) (eT rfl) rfl (k0 rfl) <| x_as (eB rfl) (k0 rfl) <| lx_nil) (cw_seq (cw_rg hnt rfl (x_mv (eB rfl) (k0 rfl) <| lx_nil) ?_))))
          refine cw_cond rfl (fun hb80 => ?_) (fun hb80 => ?_)
          · replace h := condT hb80 h
            obtain ⟨v81, hv81, h⟩ := bindE h
            refine cw_rg hnt rfl (x_mv (eT rfl) (k0 rfl) <| x_slT T9 (eT rfl) rfl rfl hv81 (k0 rfl) <| x_as (eT rfl) (k0 rfl) <| lx_nil) (cw_blk (cw_nil ?_))
            exact ⟨g1, _, Nat.lt_succ_self _, (to_ren (N := 0) (n' := 7) (L := [(0, tx v81), (4, .own 6 0 v79.length), (5, bo (!(v77.2.1 == [])))]) (H := [(6, ob (v79 : List T_Rdn))]) (fun y => bif Nat.beq y 6 then 48 else y) [6] [] hn rfl rfl rfl fix0 (by decide) ⟨trv, (Tr.own rfl), trv, trivial⟩ ⟨.inr ⟨rfl, _, rfl, tro⟩, trivial⟩), v81, (!(v77.2.1 == [])), v79, h, rfl⟩
          · replace h := condF hb80 h
            refine cw_skip (cw_blk (cw_nil ?_))
            exact ⟨g1, _, Nat.lt_succ_self _, (to_ren (N := 0) (n' := 7) (L := [(0, tx v77.2.1), (4, .own 6 0 v79.length), (5, bo (!(v77.2.1 == [])))]) (H := [(6, ob (v79 : List T_Rdn))]) (fun y => bif Nat.beq y 6 then 48 else y) [6] [] hn rfl rfl rfl fix0 (by decide) ⟨trv, (Tr.own rfl), trv, trivial⟩ ⟨.inr ⟨rfl, _, rfl, tro⟩, trivial⟩), v77.2.1, (!(v77.2.1 == [])), v79, h, rfl⟩
    · replace h := condF hb70 h
      refine cw_exit (cw_xc (cw_xt (cw_xb (cw_nil ?_))))
      exact ⟨_, (to_ren (N := 0) (n' := 8) (L := [(4, .own 6 0 v56.length)]) (H := [(6, ob (v56 : List T_Rdn))]) (id) [6] [] hn rfl rfl rfl fix0 (by decide) ⟨(Tr.own rfl), trivial⟩ ⟨.inr ⟨rfl, _, rfl, tro⟩, trivial⟩), v56, h, rfl⟩
  · rintro _ ⟨v40, h, rfl⟩
    rw [dn_Parse_k1] at h
    refine cw_seq (cw_seq ?_)
    obtain ⟨v41, hv41, h⟩ := bindE h
    refine cw_rg hnt rfl (x_mv (eO rfl) (k0 rfl) <| x_bo (eF rfl) P46 (c_dn_May v40 v41 hv41) (id := 6) rfl rfl (fzc fzO fzn) Pl.val (k0 rfl) <| x_not (eB rfl) (k0 rfl) <| lx_nil) ?_
    refine cw_cond rfl (fun hb42 => ?_) (fun hb42 => ?_)
    · replace h := condT hb42 h
      refine cw_seq (cw_rg hnt rfl (x_as (eV rfl) (k0 rfl) <| x_as (eB rfl) (k0 rfl) <| lx_nil) (cw_to (to_ren (N := 0) (n' := 13) (L := [(2, .own 0 0 0), (3, bo false)]) (H := [(0, ob ([] : List T_Rdn))]) (id) [] [0] hn rfl rfl rfl fix0 .nil ⟨(Tr.nilOwn rfl), trv, trivial⟩ ⟨.inl ⟨rfl, rfl⟩, trivial⟩) (cw_ret (cw_rc (cw_rn ?_)))))
      cases h
      exact ⟨rfl, sub1 rfl⟩
    · replace h := condF hb42 h
      refine cw_skip (cw_seq (cw_rg hnt rfl (x_mv (eO rfl) (k0 rfl) <| x_as (eO rfl) (k0 rfl) <| x_as (eB rfl) (k0 rfl) <| lx_nil) (cw_to (to_ren (N := 0) (n' := 14) (L := [(2, .own 0 0 v40.length), (3, bo true)]) (H := [(0, ob (v40 : List T_Rdn))]) (fun y => bif Nat.beq y 0 then 6 else y) [0] [] hn rfl rfl rfl fix0 (by decide) ⟨(Tr.own rfl), trv, trivial⟩ ⟨.inr ⟨rfl, _, rfl, tro⟩, trivial⟩) (cw_ret (cw_rn ?_)))))
      cases h
      exact ⟨rfl, sub1 rfl⟩

theorem c_dn_lowered (p0 : Str) (r : Str) (h : s_dn_lowered p0 = some r) : Pu Tryz.prog 47 [tx p0] (tx r) := by
  refine ⟨(nfc nfv nfn), nfv, fs_start _ _ Tryz.func47 rfl Tryz.ntmps47 Tryz.results47 rfl fun X hnt hn => ?_⟩
  rw [s_dn_lowered] at h
  refine cw_seq (cw_rg hnt rfl (x_as (eT rfl) (k0 rfl) <| lx_nil) (cw_seq ?_))
  obtain ⟨v1, hv1, h⟩ := bindE h
  refine cw_rg hnt rfl (x_mv (eT rfl) (k0 rfl) <| x_tob T9 Y38 (eT rfl) hv1 (k0 rfl) <| x_as (eO rfl) (k0 rfl) <| lx_nil) (cw_seq (cw_seq (cw_rg hnt rfl (x_mv (eO rfl) (k0 rfl) <| x_ln (n := v1.length) E38 rfl (k0 rfl) <| x_mv (eI rfl) (k0 rfl) <| lx_nil) ?_)))
  refine cw_cut (fun st => ∃ (v19 : Str), dn_lowered_k1 v19 = some r ∧ st = ⟨ls [(3, .own 2 0 v19.length)], hl [(2, ob (v19 : Str))], 8⟩) ?_ ?_
  · skip
    refine cw_block (cw_to (to_ren (N := 0) (n' := 7) (L := [(3, .own 2 0 v1.length), (8, .own 2 0 v1.length), (9, i64 (v1.length : Int)), (10, i64 0)]) (H := [(2, ob (v1 : Str))]) (id) [2] [] hn rfl rfl rfl fix0 (by decide) ⟨(Tr.own rfl), (Tr.own rfl), trv, trv, trivial⟩ ⟨.inr ⟨rfl, _, rfl, tro⟩, trivial⟩) ?_)
    refine cw_loop (fun g st => ∃ (v26 : Int) (v25 : Str), dn_lowered_l1 v1 g v26 v25 = some r ∧ st = ⟨ls [(3, .own 2 0 v25.length), (8, .own 2 0 v25.length), (9, i64 (v1.length : Int)), (10, i64 v26)], hl [(2, ob (v25 : Str))], 7⟩) FUEL ⟨0, v1, h, rfl⟩ ?_
    rintro g _ ⟨v26, v25, h, rfl⟩
    rcases g with _ | g1
    · rw [dn_lowered_l1] at h; cases h
    rw [dn_lowered_l1] at h
    refine cw_seq (cw_rg hnt rfl (x_ci (eX (.val (.int .i64 v26)) rfl) (eX (.val (.int .i64 (v1.length : Int))) rfl) rfl (k0 rfl) <| lx_nil) (cw_seq ?_))
    refine cw_cond rfl (fun hb32 => ?_) (fun hb32 => ?_)
    · replace h := condT hb32 h
      refine cw_skip (cw_seq (cw_block (cw_seq ?_)))
      obtain ⟨v33, hv33, h⟩ := bindE h
      refine cw_rg hnt rfl (x_mv (eI rfl) (k0 rfl) <| x_io E38 rfl (eO rfl) rfl rfl (lgB hv33) (k0 rfl) <| x_ldE L5 (eP rfl) rfl (lgO hv33) (sX (u8 v33) rfl) (k0 rfl) <| x_as (eI rfl) (k0 rfl) <| x_as (eU v33 rfl) (k0 rfl) <| lx_nil) ?_
      obtain ⟨v34, hv34, h⟩ := bindE h
      obtain ⟨v35, hv35, h⟩ := bindE h
      refine cw_rg hnt rfl (x_mv (eO rfl) (k0 rfl) <| x_mv (eI rfl) (k0 rfl) <| x_mv (eU v33 rfl) (k0 rfl) <| x_pu (eF rfl) P78 (c_dn_lower v33 v34 hv34) rfl (k0 rfl) <| x_io E38 rfl (eO rfl) rfl rfl (lgB hv35) (k0 rfl) <| x_stE (a' := v34) L5 (eP rfl) rfl rfl (lgO hv35) rfl rfl (k0 rfl) <| lx_nil) (cw_blk ?_)
      obtain ⟨v36, hv36, h⟩ := bindE h
      refine cw_rg hnt rfl (x_ai (eI rfl) (eI rfl) hv36 (k0 rfl) <| x_mv (eI rfl) (k0 rfl) <| lx_nil) (cw_nil ?_)
      exact ⟨g1, _, Nat.lt_succ_self _, (to_ren (N := 0) (n' := 7) (L := [(3, .own 2 0 ((v25.set v26.toNat v34).length)), (8, .own 2 0 ((v25.set v26.toNat v34).length)), (9, i64 (v1.length : Int)), (10, i64 v36)]) (H := [(2, ob ((v25.set v26.toNat v34) : Str))]) (id) [2] [] hn rfl rfl rfl fix0 (by decide) ⟨(Tr.ownE rfl (by simp)), (Tr.ownE rfl (by simp)), trv, trv, trivial⟩ ⟨.inr ⟨rfl, _, rfl, tro⟩, trivial⟩), v36, (v25.set v26.toNat v34), h, rfl⟩
    · replace h := condF hb32 h
      refine cw_exit (cw_xc (cw_xt (cw_xb (cw_nil ?_))))
      exact ⟨_, (to_ren (N := 0) (n' := 8) (L := [(3, .own 2 0 v25.length)]) (H := [(2, ob (v25 : Str))]) (id) [2] [] hn rfl rfl rfl fix0 (by decide) ⟨(Tr.own rfl), trivial⟩ ⟨.inr ⟨rfl, _, rfl, tro⟩, trivial⟩), v25, h, rfl⟩
  · rintro _ ⟨v19, h, rfl⟩
    rw [dn_lowered_k1] at h
    refine cw_seq (cw_rg hnt rfl (x_mv (eO rfl) (k0 rfl) <| x_tos (s := v19) Y38 T9 rfl rfl (k0 rfl) <| x_as (eT rfl) (k0 rfl) <| lx_nil) (cw_ret (cw_rn ?_)))
    cases h
    exact ⟨rfl, sub0⟩

theorem c_dn_Fold (p0 : Str) (r : Str) (h : s_dn_Fold p0 = some r) : Pu Tryz.prog 48 [tx p0] (tx r) := by
  refine ⟨(nfc nfv nfn), nfv, fs_start _ _ Tryz.func48 rfl Tryz.ntmps48 Tryz.results48 rfl fun X hnt hn => ?_⟩
  rw [s_dn_Fold] at h
  refine cw_seq (cw_rg hnt rfl (x_as (eT rfl) (k0 rfl) <| lx_nil) (cw_seq (cw_rg hnt rfl (x_as (eV rfl) (k0 rfl) <| lx_nil) (cw_seq (cw_seq ?_)))))
  obtain ⟨v1, hv1, h⟩ := bindE h
  obtain ⟨v2, hv2, h⟩ := bindE h
  obtain ⟨v3, hv3, h⟩ := bindE h
  refine cw_rg hnt rfl (x_mv (eT rfl) (k0 rfl) <| x_pu (eF rfl) P79 (l_trim p0 k_x20 v1 hv1) rfl (k0 rfl) <| x_pu (eF rfl) P47 (c_dn_lowered v1 v2 hv2) rfl (k0 rfl) <| x_tob T9 Y38 (eT rfl) hv3 (k0 rfl) <| x_ln (n := v3.length) E38 rfl (k0 rfl) <| x_mv (eI rfl) (k0 rfl) <| lx_nil) ?_
  refine cw_cut (fun st => ∃ (v35 : Str), dn_Fold_k1 v35 = some r ∧ st = ⟨ls [(3, .own 8 0 v35.length)], hl [(8, ob (v35 : Str))], 10⟩) ?_ ?_
  · skip
    refine cw_block (cw_to (to_ren (N := 0) (n' := 9) (L := [(3, .own 8 0 0), (9, .own 5 0 v3.length), (10, i64 (v3.length : Int)), (11, i64 0)]) (H := [(5, ob (v3 : Str)), (8, ob ([] : Str))]) (id) [5] [8] hn rfl rfl rfl fix0 (by decide) ⟨(Tr.nilOwn rfl), (Tr.own rfl), trv, trv, trivial⟩ ⟨.inr ⟨rfl, _, rfl, tro⟩, .inl ⟨rfl, rfl⟩, trivial⟩) ?_)
    refine cw_loop (fun g st => ∃ (v45 : Int) (v46 : Str), dn_Fold_l1 v3 g v45 v46 = some r ∧ st = ⟨ls [(3, .own 8 0 v46.length), (9, .own 5 0 v3.length), (10, i64 (v3.length : Int)), (11, i64 v45)], hl [(5, ob (v3 : Str)), (8, ob (v46 : Str))], 9⟩) FUEL ⟨0, [], h, rfl⟩ ?_
    rintro g _ ⟨v45, v46, h, rfl⟩
    rcases g with _ | g1
    · rw [dn_Fold_l1] at h; cases h
    rw [dn_Fold_l1] at h
    refine cw_seq (cw_rg hnt rfl (x_ci (eX (.val (.int .i64 v45)) rfl) (eX (.val (.int .i64 (v3.length : Int))) rfl) rfl (k0 rfl) <| lx_nil) (cw_seq ?_))
    refine cw_cond rfl (fun hb57 => ?_) (fun hb57 => ?_)
    · replace h := condT hb57 h
      refine cw_skip (cw_seq (cw_block (cw_seq ?_)))
      obtain ⟨v58, hv58, h⟩ := bindE h
      refine cw_rg hnt rfl (x_io E38 rfl (eO rfl) rfl rfl (lgB hv58) (k0 rfl) <| x_ldE L5 (eP rfl) rfl (lgO hv58) (sX (u8 v58) rfl) (k0 rfl) <| x_as (eU v58 rfl) (k0 rfl) <| lx_nil) (cw_seq (cw_seq ?_))
      obtain ⟨v62, hq, h⟩ := bindE h
      refine cw_rl [(25, bo v62)] (D := [15, 16, 17, 18, 19, 20, 21, 22, 23, 24, 25]) hnt rfl rfl (by
        rcases Bool.eq_false_or_eq_true ((v58 == 32)) with hb59 | hb59
        · replace hq := condT hb59 hq
          obtain ⟨v60, hv60, hq⟩ := bindE hq
          obtain ⟨v61, hv61, hq⟩ := bindE hq
          replace hq := Option.some.inj hq
          subst hq
          exact ⟨_, _, x_mv (eU v58 rfl) (k0 rfl) <| x_cu (eU v58 rfl) (eU 32 rfl) rfl (k0 rfl) <| x_mv (eB rfl) (k0 rfl) <| x_mv (eO rfl) (k1 rfl rfl rfl (congrArg bo hb59)) <| x_mv (eO rfl) (k1 rfl rfl rfl (congrArg bo hb59)) <| x_ln (n := v46.length) E38 rfl (k1 rfl rfl rfl (congrArg bo hb59)) <| x_ai (eI rfl) (eI rfl) hv60 (k1 rfl rfl rfl (congrArg bo hb59)) <| x_io E38 rfl (eO rfl) rfl rfl (lgB hv61) (k1 rfl rfl rfl (congrArg bo hb59)) <| x_ldE L5 (eP rfl) rfl (lgO hv61) (sX (u8 v61) rfl) (k1 rfl rfl rfl (congrArg bo hb59)) <| x_cu (eU v61 rfl) (eU 32 rfl) rfl (k1 rfl rfl rfl (congrArg bo hb59)) <| x_pt rfl hb59 (eB rfl) (k0 rfl) <| lx_nil, ⟨rfl, trivial⟩⟩
        · replace hq := condF hb59 hq
          replace hq := Option.some.inj hq
          subst hq
          exact ⟨_, _, x_mv (eU v58 rfl) (k0 rfl) <| x_cu (eU v58 rfl) (eU 32 rfl) rfl (k0 rfl) <| x_mv (eB rfl) (k0 rfl) <| lx_off rfl rfl (congrArg bo hb59) rfl <| lx_off rfl rfl (congrArg bo hb59) rfl <| lx_off rfl rfl (congrArg bo hb59) rfl <| lx_off rfl rfl (congrArg bo hb59) rfl <| lx_off rfl rfl (congrArg bo hb59) rfl <| lx_off rfl rfl (congrArg bo hb59) rfl <| lx_off rfl rfl (congrArg bo hb59) rfl <| x_pf rfl hb59 (eB rfl) (k0 rfl) <| lx_nil, ⟨rfl, trivial⟩⟩) ?_
      refine cw_cond rfl (fun hb63 => ?_) (fun hb63 => ?_)
      · replace h := condT hb63 h
        refine cw_exit (cw_xc (cw_xb ?_))
        obtain ⟨v64, hv64, h⟩ := bindE h
        refine cw_rg hnt rfl (x_ai (eI rfl) (eI rfl) hv64 (k0 rfl) <| x_mv (eI rfl) (k0 rfl) <| lx_nil) (cw_nil ?_)
        exact ⟨g1, _, Nat.lt_succ_self _, (to_ren (N := 0) (n' := 9) (L := [(3, .own 8 0 v46.length), (9, .own 5 0 v3.length), (10, i64 (v3.length : Int)), (11, i64 v64)]) (H := [(5, ob (v3 : Str)), (8, ob (v46 : Str))]) (id) [5, 8] [] hn rfl rfl rfl fix0 (by decide) ⟨(Tr.own rfl), (Tr.own rfl), trv, trv, trivial⟩ ⟨.inr ⟨rfl, _, rfl, tro⟩, .inr ⟨rfl, _, rfl, tro⟩, trivial⟩), v64, v46, h, rfl⟩
      · replace h := condF hb63 h
        refine cw_skip ?_
        obtain ⟨v65, hv65, h⟩ := bindE h
        refine cw_rg hnt rfl (x_mv (eO rfl) (k0 rfl) <| x_mv (eU v58 rfl) (k0 rfl) <| x_bsA ([v58] : Str) E38 rfl rfl (k0 rfl) <| x_apO (l1 := v46) E38 rfl rfl rfl (vlA' (l := ([v58] : Str)) rfl rfl) hv65 (k0 rfl) <| x_as (eO rfl) (k0 rfl) <| lx_nil) (cw_blk ?_)
        obtain ⟨v66, hv66, h⟩ := bindE h
        refine cw_rg hnt rfl (x_ai (eI rfl) (eI rfl) hv66 (k0 rfl) <| x_mv (eI rfl) (k0 rfl) <| lx_nil) (cw_nil ?_)
        exact ⟨g1, _, Nat.lt_succ_self _, (to_ren (N := 0) (n' := 9) (L := [(3, .own 8 0 v65.length), (9, .own 5 0 v3.length), (10, i64 (v3.length : Int)), (11, i64 v66)]) (H := [(5, ob (v3 : Str)), (8, ob (v65 : Str))]) (fun y => bif Nat.beq y 8 then 27 else y) [5, 8] [] hn rfl rfl rfl fix0 (by decide) ⟨(Tr.own rfl), (Tr.own rfl), trv, trv, trivial⟩ ⟨.inr ⟨rfl, _, rfl, tro⟩, .inr ⟨rfl, _, rfl, tro⟩, trivial⟩), v66, v65, h, rfl⟩
    · replace h := condF hb57 h
      refine cw_exit (cw_xc (cw_xt (cw_xb (cw_nil ?_))))
      exact ⟨_, (to_ren (N := 0) (n' := 10) (L := [(3, .own 8 0 v46.length)]) (H := [(8, ob (v46 : Str))]) (id) [8] [] hn rfl rfl rfl fix0 (by decide) ⟨(Tr.own rfl), trivial⟩ ⟨.inr ⟨rfl, _, rfl, tro⟩, trivial⟩), v46, h, rfl⟩
  · rintro _ ⟨v35, h, rfl⟩
    rw [dn_Fold_k1] at h
    refine cw_seq (cw_rg hnt rfl (x_mv (eO rfl) (k0 rfl) <| x_tos (s := v35) Y38 T9 rfl rfl (k0 rfl) <| x_as (eT rfl) (k0 rfl) <| lx_nil) (cw_ret (cw_rn ?_)))
    cases h
    exact ⟨rfl, sub0⟩

theorem c_dn_Text (p0 : List T_Rdn) (r : Str) (h : s_dn_Text p0 = some r) : Pu Tryz.prog 49 [ar p0] (tx r) := by
  refine ⟨(nfc nfa nfn), nfv, fs_start _ _ Tryz.func49 rfl Tryz.ntmps49 Tryz.results49 rfl fun X hnt hn => ?_⟩
  rw [s_dn_Text] at h
  refine cw_seq (cw_rg hnt rfl (x_as (eT rfl) (k0 rfl) <| lx_nil) (cw_seq (cw_rg hnt rfl (x_alB Z105 rfl (k0 rfl) <| lx_nil) (cw_seq (cw_seq (cw_rg hnt rfl (x_mv (eA rfl) (k0 rfl) <| x_lnA E50 (eX (ar p0) rfl) (k0 rfl) <| x_mv (eI rfl) (k0 rfl) <| lx_nil) ?_))))))
  refine cw_cut (fun st => ∃ (v1206 : Str), dn_Text_k1 v1206 = some r ∧ st = ⟨ls [(3, .ptr 1 0 0)], hl [(1, ⟨[[.sp 1 105, .owt 5 v1206.length 5]], 2⟩), (5, ob (v1206 : Str))], 7⟩) ?_ ?_
  · skip
    refine cw_block (cw_to (to_ren (N := 0) (n' := 6) (L := [(3, .ptr 1 0 0), (8, ar p0), (9, i64 (p0.length : Int)), (10, i64 0)]) (H := [(1, ⟨[[.sp 1 105, .owt 5 0 5]], 2⟩), (5, ob ([] : Str))]) (id) [1] [5] hn rfl rfl rfl fix0 (by decide) ⟨(Tr.ptr rfl), tra, trv, trv, trivial⟩ ⟨.inr ⟨rfl, _, rfl, TrO.cell (.cons (Tr.sp rfl) (.cons (Tr.nilOwt rfl) .nil)) rfl⟩, .inl ⟨rfl, rfl⟩, trivial⟩) ?_)
    refine cw_loop (fun g st => ∃ (v1610 : Int) (v1609 : Str), dn_Text_l1 p0 g v1610 v1609 = some r ∧ st = ⟨ls [(3, .ptr 1 0 0), (8, ar p0), (9, i64 (p0.length : Int)), (10, i64 v1610)], hl [(1, ⟨[[.sp 1 105, .owt 5 v1609.length 5]], 2⟩), (5, ob (v1609 : Str))], 6⟩) FUEL ⟨0, [], h, rfl⟩ ?_
    rintro g _ ⟨v1610, v1609, h, rfl⟩
    rcases g with _ | g1
    · rw [dn_Text_l1] at h; cases h
    rw [dn_Text_l1] at h
    refine cw_seq (cw_rg hnt rfl (x_ci (eX (.val (.int .i64 v1610)) rfl) (eX (.val (.int .i64 (p0.length : Int))) rfl) rfl (k0 rfl) <| lx_nil) (cw_seq ?_))
    refine cw_cond rfl (fun hb2012 => ?_) (fun hb2012 => ?_)
    · replace h := condT hb2012 h
      refine cw_skip (cw_seq ?_)
      refine cw_cut (fun st => ∃ (v2212 : Str), dn_Text_k2 v1610 (dn_Text_l1 p0 g1) v2212 = some r ∧ st = ⟨ls [(3, .ptr 1 0 0), (8, ar p0), (9, i64 (p0.length : Int)), (10, i64 v1610)], hl [(1, ⟨[[.sp 1 105, .owt 19 v2212.length 5]], 2⟩), (19, ob (v2212 : Str))], 25⟩) ?_ ?_
      · skip
        refine cw_block (cw_seq ?_)
        obtain ⟨v2214, hv2214, h⟩ := bindE h
        refine cw_rg hnt rfl (x_mv (eI rfl) (k0 rfl) <| x_ia E50 rfl (eX (ar p0) rfl) rfl hv2214 (k0 rfl) <| x_ld L49 (eQ rfl) rfl (sX (.agg [tx v2214.Typ, tx v2214.Val]) rfl) (k0 rfl) <| x_al Z49 (k0 rfl) <| x_as (eI rfl) (k0 rfl) <| x_st L49 (eP rfl) rfl rfl rfl rfl (k0 rfl) <| lx_nil) (cw_seq (cw_seq (cw_rg hnt rfl (x_mv (eI rfl) (k0 rfl) <| x_ci (eX (.val (.int .i64 v1610)) rfl) (eX (.val (.int .i64 0)) rfl) rfl (k0 rfl) <| lx_nil) ?_)))
        refine cw_cut (fun st => ∃ (v2217 : Str), dn_Text_k3 v1610 (dn_Text_l1 p0 g1) v2214 v2217 = some r ∧ st = ⟨ls [(3, .ptr 1 0 0), (5, .ptr 10 0 0), (8, ar p0), (9, i64 (p0.length : Int)), (10, i64 v1610)], hl [(1, ⟨[[.sp 1 105, .owt 15 v2217.length 5]], 2⟩), (10, ⟨[[tx v2214.Typ, tx v2214.Val]], 2⟩), (15, ob (v2217 : Str))], 16⟩) ?_ ?_
        · skip
          refine cw_cond rfl (fun hb2411 => ?_) (fun hb2411 => ?_)
          · replace h := condT hb2411 h
            obtain ⟨v2412, hv2412, h⟩ := bindE h
            refine cw_rg hnt rfl (x_fx (eF rfl) P80 (c_strings_Builder_WriteByte v1609 44 v2412 hv2412 (s := 1) (k := 5) (n := 15) rfl rfl rfl) (subH ⟨rfl, rfl, trivial⟩) rfl (k0 rfl) <| lx_nil) (cw_nil ?_)
            exact ⟨_, (to_ren (N := 0) (n' := 16) (L := [(3, .ptr 1 0 0), (5, .ptr 10 0 0), (8, ar p0), (9, i64 (p0.length : Int)), (10, i64 v1610)]) (H := [(1, ⟨[[.sp 1 105, .owt 15 v2412.1.length 5]], 2⟩), (10, ⟨[[tx v2214.Typ, tx v2214.Val]], 2⟩), (15, ob (v2412.1 : Str))]) (id) [1, 10, 15] [] hn rfl rfl rfl fix0 (by decide) ⟨(Tr.ptr rfl), (Tr.ptr rfl), tra, trv, trv, trivial⟩ ⟨.inr ⟨rfl, _, rfl, TrO.cell (.cons (Tr.sp rfl) (.cons (Tr.owt rfl) .nil)) rfl⟩, .inr ⟨rfl, _, rfl, TrO.cell (.cons trv (.cons trv .nil)) rfl⟩, .inr ⟨rfl, _, rfl, tro⟩, trivial⟩), v2412.1, h, rfl⟩
          · replace h := condF hb2411 h
            refine cw_skip (cw_nil ?_)
            exact ⟨_, (to_ren (N := 0) (n' := 16) (L := [(3, .ptr 1 0 0), (5, .ptr 10 0 0), (8, ar p0), (9, i64 (p0.length : Int)), (10, i64 v1610)]) (H := [(1, ⟨[[.sp 1 105, .owt 15 v1609.length 5]], 2⟩), (10, ⟨[[tx v2214.Typ, tx v2214.Val]], 2⟩), (15, ob (v1609 : Str))]) (fun y => bif Nat.beq y 15 then 5 else y) [1, 10, 15] [] hn rfl rfl rfl fix0 (by decide) ⟨(Tr.ptr rfl), (Tr.ptr rfl), tra, trv, trv, trivial⟩ ⟨.inr ⟨rfl, _, rfl, TrO.cell (.cons (Tr.sp rfl) (.cons (Tr.owt rfl) .nil)) rfl⟩, .inr ⟨rfl, _, rfl, TrO.cell (.cons trv (.cons trv .nil)) rfl⟩, .inr ⟨rfl, _, rfl, tro⟩, trivial⟩), v1609, h, rfl⟩
        · rintro _ ⟨v2217, h, rfl⟩
          rw [dn_Text_k3] at h
          refine cw_seq ?_
          obtain ⟨v2218, hv2218, h⟩ := bindE h
          refine cw_rg hnt rfl (x_fp F49_0 (eP rfl) (k0 rfl) <| x_ld L9 (eP rfl) rfl (sX (tx v2214.Typ) rfl) (k0 rfl) <| x_fx (eF rfl) P81 (c_strings_Builder_WriteString v2217 v2214.Typ v2218 hv2218 (s := 1) (k := 15) (n := 18) rfl rfl rfl) (subH ⟨rfl, rfl, trivial⟩) rfl (k0 rfl) <| lx_nil) (cw_seq ?_)
          obtain ⟨v2219, hv2219, h⟩ := bindE h
          refine cw_rg hnt rfl (x_fx (eF rfl) P80 (c_strings_Builder_WriteByte v2218.1 61 v2219 hv2219 (s := 1) (k := 18) (n := 19) rfl rfl rfl) (subH ⟨rfl, rfl, trivial⟩) rfl (k0 rfl) <| lx_nil) (cw_seq (cw_rg hnt rfl (x_fp F49_1 (eP rfl) (k0 rfl) <| x_ld L9 (eP rfl) rfl (sX (tx v2214.Val) rfl) (k0 rfl) <| x_lnT T9 (eT rfl) (k0 rfl) <| x_mv (eI rfl) (k0 rfl) <| lx_nil) ?_))
          refine cw_cut (fun st => ∃ (v2315 : Str), dn_Text_k4 v1610 (dn_Text_l1 p0 g1) v2315 = some r ∧ st = ⟨ls [(3, .ptr 1 0 0), (8, ar p0), (9, i64 (p0.length : Int)), (10, i64 v1610)], hl [(1, ⟨[[.sp 1 105, .owt 19 v2315.length 5]], 2⟩), (19, ob (v2315 : Str))], 25⟩) ?_ ?_
          · skip
            refine cw_block (cw_to (to_ren (N := 0) (n' := 24) (L := [(3, .ptr 1 0 0), (5, .ptr 10 0 0), (8, ar p0), (9, i64 (p0.length : Int)), (10, i64 v1610), (24, i64 (v2214.Val.length : Int)), (25, i64 0)]) (H := [(1, ⟨[[.sp 1 105, .owt 19 v2219.1.length 5]], 2⟩), (10, ⟨[[tx v2214.Typ, tx v2214.Val]], 2⟩), (19, ob (v2219.1 : Str))]) (id) [1, 10, 19] [] hn rfl rfl rfl fix0 (by decide) ⟨(Tr.ptr rfl), (Tr.ptr rfl), tra, trv, trv, trv, trv, trivial⟩ ⟨.inr ⟨rfl, _, rfl, TrO.cell (.cons (Tr.sp rfl) (.cons (Tr.owt rfl) .nil)) rfl⟩, .inr ⟨rfl, _, rfl, TrO.cell (.cons trv (.cons trv .nil)) rfl⟩, .inr ⟨rfl, _, rfl, tro⟩, trivial⟩) ?_)
            refine cw_loop (fun g st => ∃ (v2348 : Int) (v2347 : Str), dn_Text_l2 v1610 (dn_Text_l1 p0 g1) v2214 g v2348 v2347 = some r ∧ st = ⟨ls [(3, .ptr 1 0 0), (5, .ptr 10 0 0), (8, ar p0), (9, i64 (p0.length : Int)), (10, i64 v1610), (24, i64 (v2214.Val.length : Int)), (25, i64 v2348)], hl [(1, ⟨[[.sp 1 105, .owt 19 v2347.length 5]], 2⟩), (10, ⟨[[tx v2214.Typ, tx v2214.Val]], 2⟩), (19, ob (v2347 : Str))], 24⟩) FUEL ⟨0, v2219.1, h, rfl⟩ ?_
            rintro g _ ⟨v2348, v2347, h, rfl⟩
            rcases g with _ | g2
            · rw [dn_Text_l2] at h; cases h
            rw [dn_Text_l2] at h
            refine cw_seq (cw_rg hnt rfl (x_ci (eX (.val (.int .i64 v2348)) rfl) (eX (.val (.int .i64 (v2214.Val.length : Int))) rfl) rfl (k0 rfl) <| lx_nil) (cw_seq ?_))
            refine cw_cond rfl (fun hb2380 => ?_) (fun hb2380 => ?_)
            · replace h := condT hb2380 h
              refine cw_skip (cw_seq (cw_block (cw_seq (cw_rg hnt rfl (x_mv (eI rfl) (k0 rfl) <| x_as (eI rfl) (k0 rfl) <| lx_nil) (cw_seq ?_)))))
              obtain ⟨v2381, hv2381, h⟩ := bindE h
              refine cw_rg hnt rfl (x_fp F49_1 (eP rfl) (k0 rfl) <| x_ld L9 (eP rfl) rfl (sX (tx v2214.Val) rfl) (k0 rfl) <| x_mv (eI rfl) (k0 rfl) <| x_ixT T9 (eT rfl) rfl hv2381 (k0 rfl) <| x_as (eU v2381 rfl) (k0 rfl) <| lx_nil) (cw_seq (cw_block (cw_seq ?_)))
              obtain ⟨v2383, hq, h⟩ := bindE h
              refine cw_rl [(32, bo v2383)] (D := [33, 34, 35, 36, 37, 38, 32]) hnt rfl rfl (by
                rcases Bool.eq_false_or_eq_true ((decide (v2381 < 32))) with hb2382 | hb2382
                · replace hq := condT hb2382 hq
                  replace hq := Option.some.inj hq
                  subst hq
                  exact ⟨_, _, x_mv (eU v2381 rfl) (k0 rfl) <| x_cu (eU v2381 rfl) (eU 32 rfl) rfl (k0 rfl) <| x_mv (eB rfl) (k0 rfl) <| lx_off rfl rfl (congrArg bo hb2382) rfl <| lx_off rfl rfl (congrArg bo hb2382) rfl <| x_pt rfl hb2382 (eB rfl) (k0 rfl) <| x_as (eB rfl) (k0 rfl) <| lx_nil, ⟨rfl, trivial⟩⟩
                · replace hq := condF hb2382 hq
                  replace hq := Option.some.inj hq
                  subst hq
                  exact ⟨_, _, x_mv (eU v2381 rfl) (k0 rfl) <| x_cu (eU v2381 rfl) (eU 32 rfl) rfl (k0 rfl) <| x_mv (eB rfl) (k0 rfl) <| x_mv (eU v2381 rfl) (k1 rfl rfl rfl (congrArg bo hb2382)) <| x_cu (eU v2381 rfl) (eU 126 rfl) rfl (k1 rfl rfl rfl (congrArg bo hb2382)) <| x_pf rfl hb2382 (eB rfl) (k0 rfl) <| x_as (eB rfl) (k0 rfl) <| lx_nil, ⟨rfl, trivial⟩⟩) ?_
              refine cw_cond rfl (fun hb2384 => ?_) (fun hb2384 => ?_)
              · replace h := condT hb2384 h
                refine cw_seq ?_
                obtain ⟨v2385, hv2385, h⟩ := bindE h
                obtain ⟨v2386, hv2386, h⟩ := bindE h
                obtain ⟨v2387, hv2387, h⟩ := bindE h
                obtain ⟨v2388, hv2388, h⟩ := bindE h
                refine cw_ra [1, 19] [] [] [6, 7] hnt rfl Tryz.mixed (by kernel_rfl) rfl (by decide) (x_mv (eU v2381 rfl) (k0 rfl) <| x_su (eU v2381 rfl) (eZ rfl) hv2385 (k0 rfl) <| x_ixT T9 (eT rfl) rfl hv2386 (k0 rfl) <| x_mv (eU v2381 rfl) (k0 rfl) <| x_au (eU v2381 rfl) (eU 15 rfl) rfl (k0 rfl) <| x_ixT T9 (eT rfl) rfl hv2387 (k0 rfl) <| x_bsA ([92, v2386, v2387] : Str) E38 rfl rfl (k0 rfl) <| x_fx (eF rfl) P82 (c_strings_Builder_Write v2347 ([92, v2386, v2387] : Str) v2388 hv2388 (s := 1) (k := 19) (n := 46) rfl rfl rfl) (subH ⟨rfl, rfl, trivial⟩) rfl (k0 rfl) <| lx_nil) (cw_exit (cw_xn rfl (cw_xc (cw_xb ?_))))
                obtain ⟨v2389, hv2389, h⟩ := bindE h
                refine cw_rg hnt rfl (x_ai (eI rfl) (eI rfl) hv2389 (k0 rfl) <| x_mv (eI rfl) (k0 rfl) <| lx_nil) (cw_nil ?_)
                exact ⟨g2, _, Nat.lt_succ_self _, (to_ren (N := 0) (n' := 24) (L := [(3, .ptr 1 0 0), (5, .ptr 10 0 0), (8, ar p0), (9, i64 (p0.length : Int)), (10, i64 v1610), (24, i64 (v2214.Val.length : Int)), (25, i64 v2389)]) (H := [(1, ⟨[[.sp 1 105, .owt 19 v2388.1.length 5]], 2⟩), (10, ⟨[[tx v2214.Typ, tx v2214.Val]], 2⟩), (19, ob (v2388.1 : Str))]) (fun y => bif Nat.beq y 19 then 46 else y) [1, 10, 19] [] hn rfl rfl rfl fix0 (by decide) ⟨(Tr.ptr rfl), (Tr.ptr rfl), tra, trv, trv, trv, trv, trivial⟩ ⟨.inr ⟨rfl, _, rfl, TrO.cell (.cons (Tr.sp rfl) (.cons (Tr.owt rfl) .nil)) rfl⟩, .inr ⟨rfl, _, rfl, TrO.cell (.cons trv (.cons trv .nil)) rfl⟩, .inr ⟨rfl, _, rfl, tro⟩, trivial⟩), v2389, v2388.1, h, rfl⟩
              · replace h := condF hb2384 h
                refine cw_seq (cw_seq ?_)
                obtain ⟨v2390, hv2390, h⟩ := bindE h
                refine cw_rg hnt rfl (x_mv (eU v2381 rfl) (k0 rfl) <| x_pu (eF rfl) P77 (c_dn_special v2381 v2390 hv2390) rfl (k0 rfl) <| x_as (eB rfl) (k0 rfl) <| lx_nil) ?_
                refine cw_cond rfl (fun hb2391 => ?_) (fun hb2391 => ?_)
                · replace h := condT hb2391 h
                  refine cw_skip (cw_tk rfl hb2391 ?_)
                  obtain ⟨v2392, hv2392, h⟩ := bindE h
                  refine cw_rg hnt rfl (x_fx (eF rfl) P80 (c_strings_Builder_WriteByte v2347 92 v2392 hv2392 (s := 1) (k := 19) (n := 42) rfl rfl rfl) (subH ⟨rfl, rfl, trivial⟩) rfl (k0 rfl) <| lx_nil) (cw_blk ?_)
                  obtain ⟨v2393, hv2393, h⟩ := bindE h
                  refine cw_rg hnt rfl (x_mv (eU v2381 rfl) (k0 rfl) <| x_fx (eF rfl) P80 (c_strings_Builder_WriteByte v2392.1 v2381 v2393 hv2393 (s := 1) (k := 42) (n := 44) rfl rfl rfl) (subH ⟨rfl, rfl, trivial⟩) rfl (k0 rfl) <| lx_nil) (cw_blk ?_)
                  obtain ⟨v2394, hv2394, h⟩ := bindE h
                  refine cw_rg hnt rfl (x_ai (eI rfl) (eI rfl) hv2394 (k0 rfl) <| x_mv (eI rfl) (k0 rfl) <| lx_nil) (cw_nil ?_)
                  exact ⟨g2, _, Nat.lt_succ_self _, (to_ren (N := 0) (n' := 24) (L := [(3, .ptr 1 0 0), (5, .ptr 10 0 0), (8, ar p0), (9, i64 (p0.length : Int)), (10, i64 v1610), (24, i64 (v2214.Val.length : Int)), (25, i64 v2394)]) (H := [(1, ⟨[[.sp 1 105, .owt 19 v2393.1.length 5]], 2⟩), (10, ⟨[[tx v2214.Typ, tx v2214.Val]], 2⟩), (19, ob (v2393.1 : Str))]) (fun y => bif Nat.beq y 19 then 44 else y) [1, 10, 19] [] hn rfl rfl rfl fix0 (by decide) ⟨(Tr.ptr rfl), (Tr.ptr rfl), tra, trv, trv, trv, trv, trivial⟩ ⟨.inr ⟨rfl, _, rfl, TrO.cell (.cons (Tr.sp rfl) (.cons (Tr.owt rfl) .nil)) rfl⟩, .inr ⟨rfl, _, rfl, TrO.cell (.cons trv (.cons trv .nil)) rfl⟩, .inr ⟨rfl, _, rfl, tro⟩, trivial⟩), v2394, v2393.1, h, rfl⟩
                · replace h := condF hb2391 h
                  refine cw_seq ?_
                  obtain ⟨v2397, hq, h⟩ := bindE h
                  refine cw_rl [(47, bo v2397)] (D := [50, 51, 52, 53, 54, 55, 56, 57, 58, 59, 47]) hnt rfl rfl (by
                    rcases Bool.eq_false_or_eq_true ((v2348 == 0)) with hb2395 | hb2395
                    · replace hq := condT hb2395 hq
                      rcases Bool.eq_false_or_eq_true ((v2381 == 35)) with hb2396 | hb2396
                      · replace hq := condT hb2396 hq
                        replace hq := Option.some.inj hq
                        subst hq
                        exact ⟨_, _, x_mv (eI rfl) (k0 rfl) <| x_ci (eX (.val (.int .i64 v2348)) rfl) (eX (.val (.int .i64 0)) rfl) rfl (k0 rfl) <| x_mv (eB rfl) (k0 rfl) <| x_mv (eU v2381 rfl) (k1 rfl rfl rfl (congrArg bo hb2395)) <| x_cu (eU v2381 rfl) (eU 35 rfl) rfl (k1 rfl rfl rfl (congrArg bo hb2395)) <| x_mv (eB rfl) (k1 rfl rfl rfl (congrArg bo hb2395)) <| lx_off rfl rfl (congrArg bo hb2396) rfl <| lx_off rfl rfl (congrArg bo hb2396) rfl <| x_pt rfl hb2396 (eB rfl) (k1 rfl rfl rfl (congrArg bo hb2395)) <| x_pt rfl hb2395 (eB rfl) (k0 rfl) <| x_as (eB rfl) (k0 rfl) <| lx_nil, ⟨rfl, trivial⟩⟩
                      · replace hq := condF hb2396 hq
                        replace hq := Option.some.inj hq
                        subst hq
                        exact ⟨_, _, x_mv (eI rfl) (k0 rfl) <| x_ci (eX (.val (.int .i64 v2348)) rfl) (eX (.val (.int .i64 0)) rfl) rfl (k0 rfl) <| x_mv (eB rfl) (k0 rfl) <| x_mv (eU v2381 rfl) (k1 rfl rfl rfl (congrArg bo hb2395)) <| x_cu (eU v2381 rfl) (eU 35 rfl) rfl (k1 rfl rfl rfl (congrArg bo hb2395)) <| x_mv (eB rfl) (k1 rfl rfl rfl (congrArg bo hb2395)) <| x_mv (eU v2381 rfl) (k1 rfl rfl rfl (congrArg bo hb2396)) <| x_cu (eU v2381 rfl) (eU 32 rfl) rfl (k1 rfl rfl rfl (congrArg bo hb2396)) <| x_pf rfl hb2396 (eB rfl) (k1 rfl rfl rfl (congrArg bo hb2395)) <| x_pt rfl hb2395 (eB rfl) (k0 rfl) <| x_as (eB rfl) (k0 rfl) <| lx_nil, ⟨rfl, trivial⟩⟩
                    · replace hq := condF hb2395 hq
                      replace hq := Option.some.inj hq
                      subst hq
                      exact ⟨_, _, x_mv (eI rfl) (k0 rfl) <| x_ci (eX (.val (.int .i64 v2348)) rfl) (eX (.val (.int .i64 0)) rfl) rfl (k0 rfl) <| x_mv (eB rfl) (k0 rfl) <| lx_off rfl rfl (congrArg bo hb2395) rfl <| lx_off rfl rfl (congrArg bo hb2395) rfl <| lx_off rfl rfl (congrArg bo hb2395) rfl <| lx_dead rfl rfl rfl rfl <| lx_dead rfl rfl rfl rfl <| lx_off rfl rfl (congrArg bo hb2395) rfl <| x_pf rfl hb2395 (eB rfl) (k0 rfl) <| x_as (eB rfl) (k0 rfl) <| lx_nil, ⟨rfl, trivial⟩⟩) ?_
                  refine cw_cond rfl (fun hb2398 => ?_) (fun hb2398 => ?_)
                  · replace h := condT hb2398 h
                    refine cw_skip (cw_tk rfl hb2398 ?_)
                    obtain ⟨v2399, hv2399, h⟩ := bindE h
                    refine cw_rg hnt rfl (x_fx (eF rfl) P80 (c_strings_Builder_WriteByte v2347 92 v2399 hv2399 (s := 1) (k := 19) (n := 53) rfl rfl rfl) (subH ⟨rfl, rfl, trivial⟩) rfl (k0 rfl) <| lx_nil) (cw_blk ?_)
                    obtain ⟨v2400, hv2400, h⟩ := bindE h
                    refine cw_rg hnt rfl (x_mv (eU v2381 rfl) (k0 rfl) <| x_fx (eF rfl) P80 (c_strings_Builder_WriteByte v2399.1 v2381 v2400 hv2400 (s := 1) (k := 53) (n := 55) rfl rfl rfl) (subH ⟨rfl, rfl, trivial⟩) rfl (k0 rfl) <| lx_nil) (cw_blk ?_)
                    obtain ⟨v2401, hv2401, h⟩ := bindE h
                    refine cw_rg hnt rfl (x_ai (eI rfl) (eI rfl) hv2401 (k0 rfl) <| x_mv (eI rfl) (k0 rfl) <| lx_nil) (cw_nil ?_)
                    exact ⟨g2, _, Nat.lt_succ_self _, (to_ren (N := 0) (n' := 24) (L := [(3, .ptr 1 0 0), (5, .ptr 10 0 0), (8, ar p0), (9, i64 (p0.length : Int)), (10, i64 v1610), (24, i64 (v2214.Val.length : Int)), (25, i64 v2401)]) (H := [(1, ⟨[[.sp 1 105, .owt 19 v2400.1.length 5]], 2⟩), (10, ⟨[[tx v2214.Typ, tx v2214.Val]], 2⟩), (19, ob (v2400.1 : Str))]) (fun y => bif Nat.beq y 19 then 55 else y) [1, 10, 19] [] hn rfl rfl rfl fix0 (by decide) ⟨(Tr.ptr rfl), (Tr.ptr rfl), tra, trv, trv, trv, trv, trivial⟩ ⟨.inr ⟨rfl, _, rfl, TrO.cell (.cons (Tr.sp rfl) (.cons (Tr.owt rfl) .nil)) rfl⟩, .inr ⟨rfl, _, rfl, TrO.cell (.cons trv (.cons trv .nil)) rfl⟩, .inr ⟨rfl, _, rfl, tro⟩, trivial⟩), v2401, v2400.1, h, rfl⟩
                  · replace h := condF hb2398 h
                    obtain ⟨v2404, hq, h⟩ := bindE h
                    refine cw_rl [(47, bo v2404)] (D := [60, 61, 62, 63, 64, 65, 66, 67, 68, 69, 47]) hnt rfl rfl (by
                      obtain ⟨v2402, hv2402, hq⟩ := bindE hq
                      rcases Bool.eq_false_or_eq_true ((v2348 == v2402)) with hb2403 | hb2403
                      · replace hq := condT hb2403 hq
                        replace hq := Option.some.inj hq
                        subst hq
                        exact ⟨_, _, x_mv (eI rfl) (k0 rfl) <| x_fp F49_1 (eP rfl) (k0 rfl) <| x_ld L9 (eP rfl) rfl (sX (tx v2214.Val) rfl) (k0 rfl) <| x_lnT T9 (eT rfl) (k0 rfl) <| x_ai (eI rfl) (eI rfl) hv2402 (k0 rfl) <| x_ci (eX (.val (.int .i64 v2348)) rfl) (eX (.val (.int .i64 v2402)) rfl) rfl (k0 rfl) <| x_mv (eB rfl) (k0 rfl) <| x_mv (eU v2381 rfl) (k1 rfl rfl rfl (congrArg bo hb2403)) <| x_cu (eU v2381 rfl) (eU 32 rfl) rfl (k1 rfl rfl rfl (congrArg bo hb2403)) <| x_pt rfl hb2403 (eB rfl) (k0 rfl) <| x_as (eB rfl) (k0 rfl) <| lx_nil, ⟨rfl, trivial⟩⟩
                      · replace hq := condF hb2403 hq
                        replace hq := Option.some.inj hq
                        subst hq
                        exact ⟨_, _, x_mv (eI rfl) (k0 rfl) <| x_fp F49_1 (eP rfl) (k0 rfl) <| x_ld L9 (eP rfl) rfl (sX (tx v2214.Val) rfl) (k0 rfl) <| x_lnT T9 (eT rfl) (k0 rfl) <| x_ai (eI rfl) (eI rfl) hv2402 (k0 rfl) <| x_ci (eX (.val (.int .i64 v2348)) rfl) (eX (.val (.int .i64 v2402)) rfl) rfl (k0 rfl) <| x_mv (eB rfl) (k0 rfl) <| lx_off rfl rfl (congrArg bo hb2403) rfl <| lx_off rfl rfl (congrArg bo hb2403) rfl <| x_pf rfl hb2403 (eB rfl) (k0 rfl) <| x_as (eB rfl) (k0 rfl) <| lx_nil, ⟨rfl, trivial⟩⟩) ?_
                    refine cw_cond rfl (fun hb2405 => ?_) (fun hb2405 => ?_)
                    · replace h := condT hb2405 h
                      obtain ⟨v2406, hv2406, h⟩ := bindE h
                      refine cw_rg hnt rfl (x_fx (eF rfl) P80 (c_strings_Builder_WriteByte v2347 92 v2406 hv2406 (s := 1) (k := 19) (n := 64) rfl rfl rfl) (subH ⟨rfl, rfl, trivial⟩) rfl (k0 rfl) <| lx_nil) (cw_blk ?_)
                      obtain ⟨v2407, hv2407, h⟩ := bindE h
                      refine cw_rg hnt rfl (x_mv (eU v2381 rfl) (k0 rfl) <| x_fx (eF rfl) P80 (c_strings_Builder_WriteByte v2406.1 v2381 v2407 hv2407 (s := 1) (k := 64) (n := 66) rfl rfl rfl) (subH ⟨rfl, rfl, trivial⟩) rfl (k0 rfl) <| lx_nil) (cw_blk ?_)
                      obtain ⟨v2408, hv2408, h⟩ := bindE h
                      refine cw_rg hnt rfl (x_ai (eI rfl) (eI rfl) hv2408 (k0 rfl) <| x_mv (eI rfl) (k0 rfl) <| lx_nil) (cw_nil ?_)
                      exact ⟨g2, _, Nat.lt_succ_self _, (to_ren (N := 0) (n' := 24) (L := [(3, .ptr 1 0 0), (5, .ptr 10 0 0), (8, ar p0), (9, i64 (p0.length : Int)), (10, i64 v1610), (24, i64 (v2214.Val.length : Int)), (25, i64 v2408)]) (H := [(1, ⟨[[.sp 1 105, .owt 19 v2407.1.length 5]], 2⟩), (10, ⟨[[tx v2214.Typ, tx v2214.Val]], 2⟩), (19, ob (v2407.1 : Str))]) (fun y => bif Nat.beq y 19 then 66 else y) [1, 10, 19] [] hn rfl rfl rfl fix0 (by decide) ⟨(Tr.ptr rfl), (Tr.ptr rfl), tra, trv, trv, trv, trv, trivial⟩ ⟨.inr ⟨rfl, _, rfl, TrO.cell (.cons (Tr.sp rfl) (.cons (Tr.owt rfl) .nil)) rfl⟩, .inr ⟨rfl, _, rfl, TrO.cell (.cons trv (.cons trv .nil)) rfl⟩, .inr ⟨rfl, _, rfl, tro⟩, trivial⟩), v2408, v2407.1, h, rfl⟩
                    · replace h := condF hb2405 h
                      refine cw_skip (cw_blk ?_)
                      obtain ⟨v2409, hv2409, h⟩ := bindE h
                      refine cw_rg hnt rfl (x_mv (eU v2381 rfl) (k0 rfl) <| x_fx (eF rfl) P80 (c_strings_Builder_WriteByte v2347 v2381 v2409 hv2409 (s := 1) (k := 19) (n := 65) rfl rfl rfl) (subH ⟨rfl, rfl, trivial⟩) rfl (k0 rfl) <| lx_nil) (cw_blk ?_)
                      obtain ⟨v2410, hv2410, h⟩ := bindE h
                      refine cw_rg hnt rfl (x_ai (eI rfl) (eI rfl) hv2410 (k0 rfl) <| x_mv (eI rfl) (k0 rfl) <| lx_nil) (cw_nil ?_)
                      exact ⟨g2, _, Nat.lt_succ_self _, (to_ren (N := 0) (n' := 24) (L := [(3, .ptr 1 0 0), (5, .ptr 10 0 0), (8, ar p0), (9, i64 (p0.length : Int)), (10, i64 v1610), (24, i64 (v2214.Val.length : Int)), (25, i64 v2410)]) (H := [(1, ⟨[[.sp 1 105, .owt 19 v2409.1.length 5]], 2⟩), (10, ⟨[[tx v2214.Typ, tx v2214.Val]], 2⟩), (19, ob (v2409.1 : Str))]) (fun y => bif Nat.beq y 19 then 65 else y) [1, 10, 19] [] hn rfl rfl rfl fix0 (by decide) ⟨(Tr.ptr rfl), (Tr.ptr rfl), tra, trv, trv, trv, trv, trivial⟩ ⟨.inr ⟨rfl, _, rfl, TrO.cell (.cons (Tr.sp rfl) (.cons (Tr.owt rfl) .nil)) rfl⟩, .inr ⟨rfl, _, rfl, TrO.cell (.cons trv (.cons trv .nil)) rfl⟩, .inr ⟨rfl, _, rfl, tro⟩, trivial⟩), v2410, v2409.1, h, rfl⟩
            · replace h := condF hb2380 h
              refine cw_exit (cw_xc (cw_xt (cw_xb (cw_nil ?_))))
              exact ⟨_, (to_ren (N := 0) (n' := 25) (L := [(3, .ptr 1 0 0), (8, ar p0), (9, i64 (p0.length : Int)), (10, i64 v1610)]) (H := [(1, ⟨[[.sp 1 105, .owt 19 v2347.length 5]], 2⟩), (19, ob (v2347 : Str))]) (id) [1, 19] [] hn rfl rfl rfl fix0 (by decide) ⟨(Tr.ptr rfl), tra, trv, trv, trivial⟩ ⟨.inr ⟨rfl, _, rfl, TrO.cell (.cons (Tr.sp rfl) (.cons (Tr.owt rfl) .nil)) rfl⟩, .inr ⟨rfl, _, rfl, tro⟩, trivial⟩), v2347, h, rfl⟩
          · rintro _ ⟨v2315, h, rfl⟩
            rw [dn_Text_k4] at h
            refine cw_blk (cw_nil ?_)
            exact ⟨_, (to_ren (N := 0) (n' := 25) (L := [(3, .ptr 1 0 0), (8, ar p0), (9, i64 (p0.length : Int)), (10, i64 v1610)]) (H := [(1, ⟨[[.sp 1 105, .owt 19 v2315.length 5]], 2⟩), (19, ob (v2315 : Str))]) (id) [1, 19] [] hn rfl rfl rfl fix0 (by decide) ⟨(Tr.ptr rfl), tra, trv, trv, trivial⟩ ⟨.inr ⟨rfl, _, rfl, TrO.cell (.cons (Tr.sp rfl) (.cons (Tr.owt rfl) .nil)) rfl⟩, .inr ⟨rfl, _, rfl, tro⟩, trivial⟩), v2315, h, rfl⟩
      · rintro _ ⟨v2212, h, rfl⟩
        rw [dn_Text_k2] at h
        obtain ⟨v2213, hv2213, h⟩ := bindE h
        refine cw_rg hnt rfl (x_ai (eI rfl) (eI rfl) hv2213 (k0 rfl) <| x_mv (eI rfl) (k0 rfl) <| lx_nil) (cw_nil ?_)
        exact ⟨g1, _, Nat.lt_succ_self _, (to_ren (N := 0) (n' := 6) (L := [(3, .ptr 1 0 0), (8, ar p0), (9, i64 (p0.length : Int)), (10, i64 v2213)]) (H := [(1, ⟨[[.sp 1 105, .owt 5 v2212.length 5]], 2⟩), (5, ob (v2212 : Str))]) (fun y => bif Nat.beq y 5 then 19 else y) [1, 5] [] hn rfl rfl rfl fix0 (by decide) ⟨(Tr.ptr rfl), tra, trv, trv, trivial⟩ ⟨.inr ⟨rfl, _, rfl, TrO.cell (.cons (Tr.sp rfl) (.cons (Tr.owt rfl) .nil)) rfl⟩, .inr ⟨rfl, _, rfl, tro⟩, trivial⟩), v2213, v2212, h, rfl⟩
    · replace h := condF hb2012 h
      refine cw_exit (cw_xc (cw_xt (cw_xb (cw_nil ?_))))
      exact ⟨_, (to_ren (N := 0) (n' := 7) (L := [(3, .ptr 1 0 0)]) (H := [(1, ⟨[[.sp 1 105, .owt 5 v1609.length 5]], 2⟩), (5, ob (v1609 : Str))]) (id) [1, 5] [] hn rfl rfl rfl fix0 (by decide) ⟨(Tr.ptr rfl), trivial⟩ ⟨.inr ⟨rfl, _, rfl, TrO.cell (.cons (Tr.sp rfl) (.cons (Tr.owt rfl) .nil)) rfl⟩, .inr ⟨rfl, _, rfl, tro⟩, trivial⟩), v1609, h, rfl⟩
  · rintro _ ⟨v1206, h, rfl⟩
    rw [dn_Text_k1] at h
    refine cw_seq ?_
    obtain ⟨v1207, hv1207, h⟩ := bindE h
    refine cw_rg hnt rfl (x_fx (eF rfl) P83 (c_strings_Builder_String v1206 v1207 hv1207 (s := 1) (k := 5) (n := 7) rfl rfl rfl) (subH ⟨rfl, rfl, trivial⟩) rfl (k0 rfl) <| x_as (eT rfl) (k0 rfl) <| lx_nil) (cw_ret (cw_rn ?_))
    cases h
    exact ⟨rfl, sub0⟩

theorem c_dn_Key (p0 : Str) (r : Str × Bool) (h : s_dn_Key p0 = some r) : Pu Tryz.prog 29 [tx p0] (.tup [tx r.1, bo r.2]) := by
  refine ⟨(nfc nfv nfn), (NF.tup (nfc nfv (nfc nfv nfn))), fs_start _ _ Tryz.func29 rfl Tryz.ntmps29 Tryz.results29 rfl fun X hnt hn => ?_⟩
  rw [s_dn_Key] at h
  refine cw_seq (cw_rg hnt rfl (x_as (eT rfl) (k0 rfl) <| x_as (eB rfl) (k0 rfl) <| lx_nil) (cw_seq ?_))
  obtain ⟨v1, hv1, h⟩ := bindE h
  refine cw_rg hnt rfl (x_mv (eT rfl) (k0 rfl) <| x_nw (eF rfl) P28 (c_dn_Parse p0 v1 hv1) rfl (k0 rfl) <| x_mv (eW rfl) (k0 rfl) <| x_ex (eW rfl) (sX (.own 3 0 v1.1.length) rfl) (k0 rfl) <| x_ex (eW rfl) (sX (bo v1.2) rfl) (k0 rfl) <| x_as (eO rfl) (k0 rfl) <| x_as (eB rfl) (k0 rfl) <| lx_nil) (cw_seq (cw_seq (cw_rg hnt rfl (x_mv (eB rfl) (k0 rfl) <| x_not (eB rfl) (k0 rfl) <| lx_nil) ?_)))
  refine cw_cond rfl (fun hb2 => ?_) (fun hb2 => ?_)
  · replace h := condT hb2 h
    refine cw_seq (cw_rg hnt rfl (x_as (eT rfl) (k0 rfl) <| x_as (eB rfl) (k0 rfl) <| lx_nil) (cw_ret (cw_rc (cw_rn ?_))))
    cases h
    exact ⟨rfl, sub0⟩
  · replace h := condF hb2 h
    refine cw_skip (cw_seq (cw_seq (cw_rg hnt rfl (x_mv (eO rfl) (k0 rfl) <| x_ln (n := v1.1.length) E50 rfl (k0 rfl) <| x_mv (eI rfl) (k0 rfl) <| lx_nil) ?_)))
    refine cw_cut (fun st => ∃ (v35 : List T_Rdn), dn_Key_k1 v35 = some r ∧ st = ⟨ls [(4, .own 3 0 v35.length)], hl [(3, ob (v35 : List T_Rdn))], 15⟩) ?_ ?_
    · skip
      refine cw_block (cw_to (to_ren (N := 0) (n' := 14) (L := [(4, .own 3 0 v1.1.length), (15, i64 (v1.1.length : Int)), (16, i64 0)]) (H := [(3, ob (v1.1 : List T_Rdn))]) (id) [3] [] hn rfl rfl rfl fix0 (by decide) ⟨(Tr.own rfl), trv, trv, trivial⟩ ⟨.inr ⟨rfl, _, rfl, tro⟩, trivial⟩) ?_)
      refine cw_loop (fun g st => ∃ (v48 : Int) (v47 : List T_Rdn), dn_Key_l1 v1 g v48 v47 = some r ∧ st = ⟨ls [(4, .own 3 0 v47.length), (15, i64 (v1.1.length : Int)), (16, i64 v48)], hl [(3, ob (v47 : List T_Rdn))], 14⟩) FUEL ⟨0, v1.1, h, rfl⟩ ?_
      rintro g _ ⟨v48, v47, h, rfl⟩
      rcases g with _ | g1
      · rw [dn_Key_l1] at h; cases h
      rw [dn_Key_l1] at h
      refine cw_seq (cw_rg hnt rfl (x_ci (eX (.val (.int .i64 v48)) rfl) (eX (.val (.int .i64 (v1.1.length : Int))) rfl) rfl (k0 rfl) <| lx_nil) (cw_seq ?_))
      refine cw_cond rfl (fun hb59 => ?_) (fun hb59 => ?_)
      · replace h := condT hb59 h
        refine cw_skip (cw_seq (cw_block (cw_seq (cw_rg hnt rfl (x_mv (eI rfl) (k0 rfl) <| x_as (eI rfl) (k0 rfl) <| lx_nil) (cw_seq ?_)))))
        obtain ⟨v60, hv60, h⟩ := bindE h
        obtain ⟨v61, hv61, h⟩ := bindE h
        obtain ⟨v62, hv62, h⟩ := bindE h
        obtain ⟨v63, hv63, h⟩ := bindE h
        obtain ⟨v64, hv64, h⟩ := bindE h
        obtain ⟨v65, hv65, h⟩ := bindE h
        refine cw_ra [3] [(18, [22])] [(2, [22]), (3, [22])] [19, 20, 21] hnt rfl Tryz.mixed (by kernel_rfl) rfl (by decide) (x_mv (eO rfl) (k0 rfl) <| x_mv (eI rfl) (k0 rfl) <| x_mv (eO rfl) (k0 rfl) <| x_mv (eI rfl) (k0 rfl) <| x_mv (eO rfl) (k0 rfl) <| x_mv (eI rfl) (k0 rfl) <| x_io E50 rfl (eO rfl) rfl rfl (lgB hv60) (k0 rfl) <| x_fp F49_0 (eP rfl) (k0 rfl) <| x_ldE L9 (eP rfl) rfl (lgO hv60) (sX (tx v60.Typ) rfl) (k0 rfl) <| x_pu (eF rfl) P47 (c_dn_lowered v60.Typ v61 hv61) rfl (k0 rfl) <| x_mv (eO rfl) (k0 rfl) <| x_mv (eI rfl) (k0 rfl) <| x_io E50 rfl (eO rfl) rfl rfl (lgB hv62) (k0 rfl) <| x_fp F49_1 (eP rfl) (k0 rfl) <| x_ldE L9 (eP rfl) rfl (lgO hv62) (sX (tx v62.Val) rfl) (k0 rfl) <| x_pu (eF rfl) P48 (c_dn_Fold v62.Val v63 hv63) rfl (k0 rfl) <| x_io E50 rfl (eO rfl) rfl rfl (lgB hv64) (k0 rfl) <| x_fp F49_0 (eP rfl) (k0 rfl) <| x_stE (a' := (⟨v61, v64.Val⟩ : T_Rdn)) L9 (eP rfl) rfl rfl (lgO hv64) rfl rfl (k0 rfl) <| x_io E50 rfl (eO rfl) rfl rfl (lgBE hv65 (by simp)) (k0 rfl) <| x_fp F49_1 (eP rfl) (k0 rfl) <| x_stE (a' := (⟨v65.Typ, v63⟩ : T_Rdn)) L9 (eP rfl) rfl rfl (lgO hv65) rfl rfl (k0 rfl) <| lx_nil) (cw_seq ?_)
        obtain ⟨v66, hv66, h⟩ := bindE h
        refine cw_rg hnt rfl (x_mv (eO rfl) (k0 rfl) <| x_mv (eI rfl) (k0 rfl) <| x_io E50 rfl (eO rfl) rfl rfl (lgBE hv66 (by simp)) (k0 rfl) <| x_fp F49_1 (eP rfl) (k0 rfl) <| x_ldE L9 (eP rfl) rfl (lgO hv66) (sX (tx v66.Val) rfl) (k0 rfl) <| x_ct (eT rfl) (eT rfl) rfl (k0 rfl) <| lx_nil) ?_
        refine cw_cond rfl (fun hb67 => ?_) (fun hb67 => ?_)
        · replace h := condT hb67 h
          refine cw_seq (cw_rg hnt rfl (x_as (eT rfl) (k0 rfl) <| x_as (eB rfl) (k0 rfl) <| lx_nil) (cw_ret (cw_rb (cw_rc (cw_rt (cw_rb (cw_rt (cw_rc (cw_rn ?_)))))))))
          cases h
          exact ⟨rfl, sub0⟩
        · replace h := condF hb67 h
          refine cw_skip (cw_blk ?_)
          obtain ⟨v68, hv68, h⟩ := bindE h
          refine cw_rg hnt rfl (x_ai (eI rfl) (eI rfl) hv68 (k0 rfl) <| x_mv (eI rfl) (k0 rfl) <| lx_nil) (cw_nil ?_)
          exact ⟨g1, _, Nat.lt_succ_self _, (to_ren (N := 0) (n' := 14) (L := [(4, .own 3 0 (((v47.set v48.toNat (⟨v61, v64.Val⟩ : T_Rdn)).set v48.toNat (⟨v65.Typ, v63⟩ : T_Rdn)).length)), (15, i64 (v1.1.length : Int)), (16, i64 v68)]) (H := [(3, ob (((v47.set v48.toNat (⟨v61, v64.Val⟩ : T_Rdn)).set v48.toNat (⟨v65.Typ, v63⟩ : T_Rdn)) : List T_Rdn))]) (id) [3] [] hn rfl rfl rfl fix0 (by decide) ⟨(Tr.ownE rfl (by simp)), trv, trv, trivial⟩ ⟨.inr ⟨rfl, _, rfl, tro⟩, trivial⟩), v68, ((v47.set v48.toNat (⟨v61, v64.Val⟩ : T_Rdn)).set v48.toNat (⟨v65.Typ, v63⟩ : T_Rdn)), h, rfl⟩
      · replace h := condF hb59 h
        refine cw_exit (cw_xc (cw_xt (cw_xb (cw_nil ?_))))
        exact ⟨_, (to_ren (N := 0) (n' := 15) (L := [(4, .own 3 0 v47.length)]) (H := [(3, ob (v47 : List T_Rdn))]) (id) [3] [] hn rfl rfl rfl fix0 (by decide) ⟨(Tr.own rfl), trivial⟩ ⟨.inr ⟨rfl, _, rfl, tro⟩, trivial⟩), v47, h, rfl⟩
    · rintro _ ⟨v35, h, rfl⟩
      rw [dn_Key_k1] at h
      refine cw_seq ?_
      obtain ⟨v36, hv36, h⟩ := bindE h
      refine cw_rg hnt rfl (x_mv (eO rfl) (k0 rfl) <| x_bo (eF rfl) P49 (c_dn_Text v35 v36 hv36) (id := 3) rfl rfl (fzc fzO fzn) Pl.val (k0 rfl) <| x_as (eT rfl) (k0 rfl) <| x_as (eB rfl) (k0 rfl) <| lx_nil) (cw_ret (cw_rn ?_))
      cases h
      exact ⟨rfl, sub0⟩

theorem c_match_rules (p0 : Str) (r : Int) (h : s_match_rules p0 = some r) : Pu Tryz.prog 54 [tx p0] (i64 r) := by
  refine ⟨(nfc nfv nfn), nfv, fs_start _ _ Tryz.func54 rfl Tryz.ntmps54 Tryz.results54 rfl fun X hnt hn => ?_⟩
  rw [s_match_rules] at h
  refine cw_seq (cw_rg hnt rfl (x_as (eI rfl) (k0 rfl) <| lx_nil) (cw_seq (cw_seq (cw_rg hnt rfl (x_mv (eT rfl) (k0 rfl) <| lx_nil) (cw_block (cw_seq (cw_rg hnt rfl (x_ct (eT rfl) (eT rfl) rfl (k0 rfl) <| x_as (eB rfl) (k0 rfl) <| lx_nil) ?_)))))))
  refine cw_cond rfl (fun hb1 => ?_) (fun hb1 => ?_)
  · replace h := condT hb1 h
    refine cw_seq (cw_rg hnt rfl (x_as (eI rfl) (k0 rfl) <| lx_nil) (cw_ret (cw_rb (cw_rc (cw_rn ?_)))))
    cases h
    exact ⟨rfl, sub0⟩
  · replace h := condF hb1 h
    refine cw_seq (cw_rg hnt rfl (x_ct (eT rfl) (eT rfl) rfl (k0 rfl) <| x_as (eB rfl) (k0 rfl) <| lx_nil) ?_)
    refine cw_cond rfl (fun hb2 => ?_) (fun hb2 => ?_)
    · replace h := condT hb2 h
      refine cw_seq (cw_rg hnt rfl (x_as (eI rfl) (k0 rfl) <| lx_nil) (cw_ret (cw_rb (cw_rc (cw_rn ?_)))))
      cases h
      exact ⟨rfl, sub0⟩
    · replace h := condF hb2 h
      refine cw_seq (cw_rg hnt rfl (x_ct (eT rfl) (eT rfl) rfl (k0 rfl) <| x_as (eB rfl) (k0 rfl) <| lx_nil) ?_)
      refine cw_cond rfl (fun hb3 => ?_) (fun hb3 => ?_)
      · replace h := condT hb3 h
        refine cw_seq (cw_rg hnt rfl (x_as (eI rfl) (k0 rfl) <| lx_nil) (cw_ret (cw_rb (cw_rc (cw_rn ?_)))))
        cases h
        exact ⟨rfl, sub0⟩
      · replace h := condF hb3 h
        refine cw_seq (cw_seq (cw_rg hnt rfl (x_ct (eT rfl) (eT rfl) rfl (k0 rfl) <| x_as (eB rfl) (k0 rfl) <| lx_nil) ?_))
        refine cw_cond rfl (fun hb4 => ?_) (fun hb4 => ?_)
        · replace h := condT hb4 h
          refine cw_skip (cw_tk rfl hb4 (cw_seq (cw_rg hnt rfl (x_as (eI rfl) (k0 rfl) <| lx_nil) (cw_ret (cw_rb (cw_rc (cw_rn ?_)))))))
          cases h
          exact ⟨rfl, sub0⟩
        · replace h := condF hb4 h
          refine cw_seq (cw_rg hnt rfl (x_ct (eT rfl) (eT rfl) rfl (k0 rfl) <| x_as (eB rfl) (k0 rfl) <| lx_nil) ?_)
          refine cw_cond rfl (fun hb5 => ?_) (fun hb5 => ?_)
          · replace h := condT hb5 h
            refine cw_skip (cw_tk rfl hb5 (cw_seq (cw_rg hnt rfl (x_as (eI rfl) (k0 rfl) <| lx_nil) (cw_ret (cw_rb (cw_rc (cw_rn ?_)))))))
            cases h
            exact ⟨rfl, sub0⟩
          · replace h := condF hb5 h
            refine cw_seq (cw_rg hnt rfl (x_ct (eT rfl) (eT rfl) rfl (k0 rfl) <| x_as (eB rfl) (k0 rfl) <| lx_nil) ?_)
            refine cw_cond rfl (fun hb6 => ?_) (fun hb6 => ?_)
            · replace h := condT hb6 h
              refine cw_skip (cw_tk rfl hb6 (cw_seq (cw_rg hnt rfl (x_as (eI rfl) (k0 rfl) <| lx_nil) (cw_ret (cw_rb (cw_rc (cw_rn ?_)))))))
              cases h
              exact ⟨rfl, sub0⟩
            · replace h := condF hb6 h
              refine cw_seq (cw_rg hnt rfl (x_ct (eT rfl) (eT rfl) rfl (k0 rfl) <| x_as (eB rfl) (k0 rfl) <| lx_nil) ?_)
              refine cw_cond rfl (fun hb7 => ?_) (fun hb7 => ?_)
              · replace h := condT hb7 h
                refine cw_skip (cw_tk rfl hb7 (cw_seq (cw_rg hnt rfl (x_as (eI rfl) (k0 rfl) <| lx_nil) (cw_ret (cw_rb (cw_rc (cw_rn ?_)))))))
                cases h
                exact ⟨rfl, sub0⟩
              · replace h := condF hb7 h
                refine cw_seq (cw_rg hnt rfl (x_ct (eT rfl) (eT rfl) rfl (k0 rfl) <| x_as (eB rfl) (k0 rfl) <| lx_nil) ?_)
                refine cw_cond rfl (fun hb8 => ?_) (fun hb8 => ?_)
                · replace h := condT hb8 h
                  refine cw_skip (cw_tk rfl hb8 (cw_seq (cw_rg hnt rfl (x_as (eI rfl) (k0 rfl) <| lx_nil) (cw_ret (cw_rb (cw_rc (cw_rn ?_)))))))
                  cases h
                  exact ⟨rfl, sub0⟩
                · replace h := condF hb8 h
                  refine cw_seq (cw_rg hnt rfl (x_ct (eT rfl) (eT rfl) rfl (k0 rfl) <| x_as (eB rfl) (k0 rfl) <| lx_nil) ?_)
                  refine cw_cond rfl (fun hb9 => ?_) (fun hb9 => ?_)
                  · replace h := condT hb9 h
                    refine cw_skip (cw_tk rfl hb9 (cw_seq (cw_rg hnt rfl (x_as (eI rfl) (k0 rfl) <| lx_nil) (cw_ret (cw_rb (cw_rc (cw_rn ?_)))))))
                    cases h
                    exact ⟨rfl, sub0⟩
                  · replace h := condF hb9 h
                    refine cw_seq (cw_rg hnt rfl (x_ct (eT rfl) (eT rfl) rfl (k0 rfl) <| x_as (eB rfl) (k0 rfl) <| lx_nil) ?_)
                    refine cw_cond rfl (fun hb10 => ?_) (fun hb10 => ?_)
                    · replace h := condT hb10 h
                      refine cw_skip (cw_tk rfl hb10 (cw_seq (cw_rg hnt rfl (x_as (eI rfl) (k0 rfl) <| lx_nil) (cw_ret (cw_rb (cw_rc (cw_rn ?_)))))))
                      cases h
                      exact ⟨rfl, sub0⟩
                    · replace h := condF hb10 h
                      refine cw_rg hnt rfl (x_ct (eT rfl) (eT rfl) rfl (k0 rfl) <| x_as (eB rfl) (k0 rfl) <| lx_nil) ?_
                      refine cw_cond rfl (fun hb11 => ?_) (fun hb11 => ?_)
                      · replace h := condT hb11 h
                        refine cw_seq (cw_rg hnt rfl (x_as (eI rfl) (k0 rfl) <| lx_nil) (cw_ret (cw_rb (cw_rc (cw_rn ?_)))))
                        cases h
                        exact ⟨rfl, sub0⟩
                      · replace h := condF hb11 h
                        refine cw_skip (cw_blk (cw_seq (cw_rg hnt rfl (x_as (eI rfl) (k0 rfl) <| lx_nil) (cw_ret (cw_rn ?_)))))
                        cases h
                        exact ⟨rfl, sub0⟩

theorem c_match_Canon (p0 : Str) (r : Str × Bool) (h : s_match_Canon p0 = some r) : Pu Tryz.prog 31 [tx p0] (.tup [tx r.1, bo r.2]) := by
  refine ⟨(nfc nfv nfn), (NF.tup (nfc nfv (nfc nfv nfn))), fs_start _ _ Tryz.func31 rfl Tryz.ntmps31 Tryz.results31 rfl fun X hnt hn => ?_⟩
  rw [s_match_Canon] at h
  refine cw_seq (cw_rg hnt rfl (x_as (eT rfl) (k0 rfl) <| x_as (eB rfl) (k0 rfl) <| lx_nil) (cw_seq ?_))
  obtain ⟨v1, hv1, h⟩ := bindE h
  refine cw_rg hnt rfl (x_mv (eT rfl) (k0 rfl) <| x_tob T9 Y38 (eT rfl) hv1 (k0 rfl) <| x_as (eO rfl) (k0 rfl) <| lx_nil) (cw_seq (cw_seq (cw_rg hnt rfl (x_mv (eO rfl) (k0 rfl) <| x_ln (n := v1.length) E38 rfl (k0 rfl) <| x_mv (eI rfl) (k0 rfl) <| lx_nil) ?_)))
  refine cw_cut (fun st => ∃ (v28 : Str), match_Canon_k1 v28 = some r ∧ st = ⟨ls [(4, .own 3 0 v28.length)], hl [(3, ob (v28 : Str))], 9⟩) ?_ ?_
  · skip
    refine cw_block (cw_to (to_ren (N := 0) (n' := 8) (L := [(4, .own 3 0 v1.length), (10, .own 3 0 v1.length), (11, i64 (v1.length : Int)), (12, i64 0)]) (H := [(3, ob (v1 : Str))]) (id) [3] [] hn rfl rfl rfl fix0 (by decide) ⟨(Tr.own rfl), (Tr.own rfl), trv, trv, trivial⟩ ⟨.inr ⟨rfl, _, rfl, tro⟩, trivial⟩) ?_)
    refine cw_loop (fun g st => ∃ (v40 : Int) (v39 : Str), match_Canon_l1 v1 g v40 v39 = some r ∧ st = ⟨ls [(4, .own 3 0 v39.length), (10, .own 3 0 v39.length), (11, i64 (v1.length : Int)), (12, i64 v40)], hl [(3, ob (v39 : Str))], 8⟩) FUEL ⟨0, v1, h, rfl⟩ ?_
    rintro g _ ⟨v40, v39, h, rfl⟩
    rcases g with _ | g1
    · rw [match_Canon_l1] at h; cases h
    rw [match_Canon_l1] at h
    refine cw_seq (cw_rg hnt rfl (x_ci (eX (.val (.int .i64 v40)) rfl) (eX (.val (.int .i64 (v1.length : Int))) rfl) rfl (k0 rfl) <| lx_nil) (cw_seq ?_))
    refine cw_cond rfl (fun hb49 => ?_) (fun hb49 => ?_)
    · replace h := condT hb49 h
      refine cw_skip (cw_seq (cw_block (cw_seq ?_)))
      obtain ⟨v50, hv50, h⟩ := bindE h
      refine cw_rg hnt rfl (x_mv (eI rfl) (k0 rfl) <| x_io E38 rfl (eO rfl) rfl rfl (lgB hv50) (k0 rfl) <| x_ldE L5 (eP rfl) rfl (lgO hv50) (sX (u8 v50) rfl) (k0 rfl) <| x_as (eI rfl) (k0 rfl) <| x_as (eU v50 rfl) (k0 rfl) <| lx_nil) (cw_seq ?_)
      obtain ⟨v52, hq, h⟩ := bindE h
      refine cw_rl [(22, bo v52)] (D := [17, 18, 19, 20, 21, 22]) hnt rfl rfl (by
        rcases Bool.eq_false_or_eq_true ((decide (65 ≤ v50))) with hb51 | hb51
        · replace hq := condT hb51 hq
          replace hq := Option.some.inj hq
          subst hq
          exact ⟨_, _, x_mv (eU v50 rfl) (k0 rfl) <| x_cu (eU 65 rfl) (eU v50 rfl) rfl (k0 rfl) <| x_mv (eB rfl) (k0 rfl) <| x_mv (eU v50 rfl) (k1 rfl rfl rfl (congrArg bo hb51)) <| x_cu (eU v50 rfl) (eU 90 rfl) rfl (k1 rfl rfl rfl (congrArg bo hb51)) <| x_pt rfl hb51 (eB rfl) (k0 rfl) <| lx_nil, ⟨rfl, trivial⟩⟩
        · replace hq := condF hb51 hq
          replace hq := Option.some.inj hq
          subst hq
          exact ⟨_, _, x_mv (eU v50 rfl) (k0 rfl) <| x_cu (eU 65 rfl) (eU v50 rfl) rfl (k0 rfl) <| x_mv (eB rfl) (k0 rfl) <| lx_off rfl rfl (congrArg bo hb51) rfl <| lx_off rfl rfl (congrArg bo hb51) rfl <| x_pf rfl hb51 (eB rfl) (k0 rfl) <| lx_nil, ⟨rfl, trivial⟩⟩) ?_
      refine cw_cond rfl (fun hb53 => ?_) (fun hb53 => ?_)
      · replace h := condT hb53 h
        obtain ⟨v54, hv54, h⟩ := bindE h
        refine cw_rg hnt rfl (x_mv (eO rfl) (k0 rfl) <| x_mv (eI rfl) (k0 rfl) <| x_mv (eU v50 rfl) (k0 rfl) <| x_au (eU v50 rfl) (eU 97 rfl) rfl (k0 rfl) <| x_au (eU (v50 + 97) rfl) (eU 65 rfl) rfl (k0 rfl) <| x_io E38 rfl (eO rfl) rfl rfl (lgB hv54) (k0 rfl) <| x_stE (a' := ((v50 + 97) - 65)) L5 (eP rfl) rfl rfl (lgO hv54) rfl rfl (k0 rfl) <| lx_nil) (cw_blk ?_)
        obtain ⟨v55, hv55, h⟩ := bindE h
        refine cw_rg hnt rfl (x_ai (eI rfl) (eI rfl) hv55 (k0 rfl) <| x_mv (eI rfl) (k0 rfl) <| lx_nil) (cw_nil ?_)
        exact ⟨g1, _, Nat.lt_succ_self _, (to_ren (N := 0) (n' := 8) (L := [(4, .own 3 0 ((v39.set v40.toNat ((v50 + 97) - 65)).length)), (10, .own 3 0 ((v39.set v40.toNat ((v50 + 97) - 65)).length)), (11, i64 (v1.length : Int)), (12, i64 v55)]) (H := [(3, ob ((v39.set v40.toNat ((v50 + 97) - 65)) : Str))]) (id) [3] [] hn rfl rfl rfl fix0 (by decide) ⟨(Tr.ownE rfl (by simp)), (Tr.ownE rfl (by simp)), trv, trv, trivial⟩ ⟨.inr ⟨rfl, _, rfl, tro⟩, trivial⟩), v55, (v39.set v40.toNat ((v50 + 97) - 65)), h, rfl⟩
      · replace h := condF hb53 h
        refine cw_skip (cw_blk ?_)
        obtain ⟨v56, hv56, h⟩ := bindE h
        refine cw_rg hnt rfl (x_ai (eI rfl) (eI rfl) hv56 (k0 rfl) <| x_mv (eI rfl) (k0 rfl) <| lx_nil) (cw_nil ?_)
        exact ⟨g1, _, Nat.lt_succ_self _, (to_ren (N := 0) (n' := 8) (L := [(4, .own 3 0 v39.length), (10, .own 3 0 v39.length), (11, i64 (v1.length : Int)), (12, i64 v56)]) (H := [(3, ob (v39 : Str))]) (id) [3] [] hn rfl rfl rfl fix0 (by decide) ⟨(Tr.own rfl), (Tr.own rfl), trv, trv, trivial⟩ ⟨.inr ⟨rfl, _, rfl, tro⟩, trivial⟩), v56, v39, h, rfl⟩
    · replace h := condF hb49 h
      refine cw_exit (cw_xc (cw_xt (cw_xb (cw_nil ?_))))
      exact ⟨_, (to_ren (N := 0) (n' := 9) (L := [(4, .own 3 0 v39.length)]) (H := [(3, ob (v39 : Str))]) (id) [3] [] hn rfl rfl rfl fix0 (by decide) ⟨(Tr.own rfl), trivial⟩ ⟨.inr ⟨rfl, _, rfl, tro⟩, trivial⟩), v39, h, rfl⟩
  · rintro _ ⟨v28, h, rfl⟩
    rw [match_Canon_k1] at h
    refine cw_seq (cw_rg hnt rfl (x_mv (eO rfl) (k0 rfl) <| x_tos (s := v28) Y38 T9 rfl rfl (k0 rfl) <| x_as (eT rfl) (k0 rfl) <| lx_nil) (cw_seq (cw_seq ?_)))
    obtain ⟨v29, hv29, h⟩ := bindE h
    refine cw_rg hnt rfl (x_mv (eT rfl) (k0 rfl) <| x_pu (eF rfl) P54 (c_match_rules v28 v29 hv29) rfl (k0 rfl) <| x_ci (eX (.val (.int .i64 v29)) rfl) (eX (.val (.int .i64 0)) rfl) rfl (k0 rfl) <| lx_nil) ?_
    refine cw_cond rfl (fun hb30 => ?_) (fun hb30 => ?_)
    · replace h := condT hb30 h
      refine cw_seq (cw_rg hnt rfl (x_as (eT rfl) (k0 rfl) <| x_as (eB rfl) (k0 rfl) <| lx_nil) (cw_ret (cw_rc (cw_rn ?_))))
      cases h
      exact ⟨rfl, sub0⟩
    · replace h := condF hb30 h
      refine cw_skip (cw_seq (cw_rg hnt rfl (x_mv (eT rfl) (k0 rfl) <| x_as (eT rfl) (k0 rfl) <| x_as (eB rfl) (k0 rfl) <| lx_nil) (cw_ret (cw_rn ?_))))
      cases h
      exact ⟨rfl, sub0⟩

theorem c_slices_Index_string (p0 : List Str) (p1 : Str) (r : Int) (h : s_slices_Index_string p0 p1 = some r) : Pu Tryz.prog 84 [ar p0, tx p1] (i64 r) := by
  refine ⟨(nfc nfa (nfc nfv nfn)), nfv, fs_start _ _ Tryz.func84 rfl Tryz.ntmps84 Tryz.results84 rfl fun X hnt hn => ?_⟩
  rw [s_slices_Index_string] at h
  refine cw_seq (cw_rg hnt rfl (x_as (eI rfl) (k0 rfl) <| lx_nil) (cw_seq (cw_seq (cw_rg hnt rfl (x_mv (eA rfl) (k0 rfl) <| x_lnA E27 (eX (ar p0) rfl) (k0 rfl) <| x_mv (eI rfl) (k0 rfl) <| lx_nil) ?_))))
  refine cw_cut (fun st => slices_Index_string_k1 = some r ∧ st = ⟨ls [], hl [], 5⟩) ?_ ?_
  · skip
    refine cw_block (cw_to (to_ren (N := 0) (n' := 4) (L := [(0, ar p0), (1, tx p1), (7, i64 (p0.length : Int)), (8, i64 0)]) (H := []) (id) [] [] hn rfl rfl rfl fix0 .nil ⟨tra, trv, trv, trv, trivial⟩ trivial) ?_)
    refine cw_loop (fun g st => ∃ (v18 : Int), slices_Index_string_l1 p0 p1 g v18 = some r ∧ st = ⟨ls [(0, ar p0), (1, tx p1), (7, i64 (p0.length : Int)), (8, i64 v18)], hl [], 4⟩) FUEL ⟨0, h, rfl⟩ ?_
    rintro g _ ⟨v18, h, rfl⟩
    rcases g with _ | g1
    · rw [slices_Index_string_l1] at h; cases h
    rw [slices_Index_string_l1] at h
    refine cw_seq (cw_rg hnt rfl (x_ci (eX (.val (.int .i64 v18)) rfl) (eX (.val (.int .i64 (p0.length : Int))) rfl) rfl (k0 rfl) <| lx_nil) (cw_seq ?_))
    refine cw_cond rfl (fun hb23 => ?_) (fun hb23 => ?_)
    · replace h := condT hb23 h
      refine cw_skip (cw_seq (cw_block (cw_seq (cw_rg hnt rfl (x_mv (eI rfl) (k0 rfl) <| x_as (eI rfl) (k0 rfl) <| lx_nil) (cw_seq ?_)))))
      obtain ⟨v24, hv24, h⟩ := bindE h
      refine cw_rg hnt rfl (x_mv (eT rfl) (k0 rfl) <| x_mv (eA rfl) (k0 rfl) <| x_mv (eI rfl) (k0 rfl) <| x_ia E27 rfl (eX (ar p0) rfl) rfl hv24 (k0 rfl) <| x_ld L9 (eQ rfl) rfl (sX (tx v24) rfl) (k0 rfl) <| x_ct (eT rfl) (eT rfl) rfl (k0 rfl) <| lx_nil) ?_
      refine cw_cond rfl (fun hb25 => ?_) (fun hb25 => ?_)
      · replace h := condT hb25 h
        refine cw_seq (cw_rg hnt rfl (x_mv (eI rfl) (k0 rfl) <| x_as (eI rfl) (k0 rfl) <| lx_nil) (cw_ret (cw_rb (cw_rc (cw_rt (cw_rb (cw_rt (cw_rc (cw_rn ?_)))))))))
        cases h
        exact ⟨rfl, sub0⟩
      · replace h := condF hb25 h
        refine cw_skip (cw_blk ?_)
        obtain ⟨v26, hv26, h⟩ := bindE h
        refine cw_rg hnt rfl (x_ai (eI rfl) (eI rfl) hv26 (k0 rfl) <| x_mv (eI rfl) (k0 rfl) <| lx_nil) (cw_nil ?_)
        exact ⟨g1, _, Nat.lt_succ_self _, (to_ren (N := 0) (n' := 4) (L := [(0, ar p0), (1, tx p1), (7, i64 (p0.length : Int)), (8, i64 v26)]) (H := []) (id) [] [] hn rfl rfl rfl fix0 .nil ⟨tra, trv, trv, trv, trivial⟩ trivial), v26, h, rfl⟩
    · replace h := condF hb23 h
      refine cw_exit (cw_xc (cw_xt (cw_xb (cw_nil ?_))))
      exact ⟨_, (to_ren (N := 0) (n' := 5) (L := []) (H := []) (id) [] [] hn rfl rfl rfl fix0 .nil trivial trivial), h, rfl⟩
  · rintro _ ⟨h, rfl⟩
    rw [slices_Index_string_k1] at h
    refine cw_seq (cw_rg hnt rfl (x_as (eI rfl) (k0 rfl) <| lx_nil) (cw_ret (cw_rn ?_)))
    cases h
    exact ⟨rfl, sub0⟩

theorem c_slices_Contains_string (p0 : List Str) (p1 : Str) (r : Bool) (h : s_slices_Contains_string p0 p1 = some r) : Pu Tryz.prog 50 [ar p0, tx p1] (bo r) := by
  refine ⟨(nfc nfa (nfc nfv nfn)), nfv, fs_start _ _ Tryz.func50 rfl Tryz.ntmps50 Tryz.results50 rfl fun X hnt hn => ?_⟩
  rw [s_slices_Contains_string] at h
  refine cw_seq (cw_rg hnt rfl (x_as (eB rfl) (k0 rfl) <| lx_nil) (cw_seq ?_))
  obtain ⟨v1, hv1, h⟩ := bindE h
  refine cw_rg hnt rfl (x_mv (eA rfl) (k0 rfl) <| x_mv (eT rfl) (k0 rfl) <| x_pu (eF rfl) P84 (c_slices_Index_string p0 p1 v1 hv1) rfl (k0 rfl) <| x_ci (eX (.val (.int .i64 v1)) rfl) (eX (.val (.int .i64 0)) rfl) rfl (k0 rfl) <| x_as (eB rfl) (k0 rfl) <| lx_nil) (cw_ret (cw_rn ?_))
  cases h
  exact ⟨rfl, sub0⟩

theorem c_match_Rule (p0 : Str) (r : Int) (h : s_match_Rule p0 = some r) : Pu Tryz.prog 85 [tx p0] (i64 r) := by
  refine ⟨(nfc nfv nfn), nfv, fs_start _ _ Tryz.func85 rfl Tryz.ntmps85 Tryz.results85 rfl fun X hnt hn => ?_⟩
  rw [s_match_Rule] at h
  refine cw_seq (cw_rg hnt rfl (x_as (eI rfl) (k0 rfl) <| lx_nil) (cw_seq ?_))
  obtain ⟨v1, hv1, h⟩ := bindE h
  refine cw_rg hnt rfl (x_mv (eT rfl) (k0 rfl) <| x_pu (eF rfl) P31 (c_match_Canon p0 v1 hv1) rfl (k0 rfl) <| x_mv (eW rfl) (k0 rfl) <| x_ex (eW rfl) (sX (tx v1.1) rfl) (k0 rfl) <| x_ex (eW rfl) (sX (bo v1.2) rfl) (k0 rfl) <| x_as (eT rfl) (k0 rfl) <| x_as (eB rfl) (k0 rfl) <| lx_nil) (cw_seq ?_)
  obtain ⟨v2, hv2, h⟩ := bindE h
  refine cw_rg hnt rfl (x_mv (eT rfl) (k0 rfl) <| x_pu (eF rfl) P54 (c_match_rules v1.1 v2 hv2) rfl (k0 rfl) <| x_as (eI rfl) (k0 rfl) <| lx_nil) (cw_ret (cw_rn ?_))
  cases h
  exact ⟨rfl, sub0⟩

theorem c_match_number (p0 : Str) (r : Bool) (h : s_match_number p0 = some r) : Pu Tryz.prog 86 [tx p0] (bo r) := by
  refine ⟨(nfc nfv nfn), nfv, fs_start _ _ Tryz.func86 rfl Tryz.ntmps86 Tryz.results86 rfl fun X hnt hn => ?_⟩
  rw [s_match_number] at h
  refine cw_seq (cw_rg hnt rfl (x_as (eB rfl) (k0 rfl) <| lx_nil) (cw_seq ?_))
  obtain ⟨v1, hv1, h⟩ := bindE h
  refine cw_rg hnt rfl (x_mv (eT rfl) (k0 rfl) <| x_pu (eF rfl) P104 (l_atoi p0 v1 hv1) rfl (k0 rfl) <| x_mv (eW rfl) (k0 rfl) <| x_ex (eW rfl) (sX (i64 v1.1) rfl) (k0 rfl) <| x_ex (eW rfl) (sX (er v1.2) rfl) (k0 rfl) <| x_as (eI rfl) (k0 rfl) <| x_as (eX _ rfl) (k0 rfl) <| lx_nil) (cw_seq ?_)
  obtain ⟨v6, hq, h⟩ := bindE h
  refine cw_rl [(2, bo v6)] (D := [10, 11, 12, 13, 14, 15, 16, 17, 18, 19, 20, 21, 22, 23, 2]) hnt rfl rfl (by
    rcases Bool.eq_false_or_eq_true ((!v1.2)) with hb2 | hb2
    · replace hq := condT hb2 hq
      obtain ⟨v3, hv3, hq⟩ := bindE hq
      rcases Bool.eq_false_or_eq_true ((v3 == p0)) with hb4 | hb4
      · replace hq := condT hb4 hq
        obtain ⟨v5, hv5, hq⟩ := bindE hq
        replace hq := Option.some.inj hq
        subst hq
        exact ⟨_, _, x_mv (eX _ rfl) (k0 rfl) <| x_ee N107 (eX (er v1.2) rfl) (k0 rfl) <| x_mv (eB rfl) (k0 rfl) <| x_mv (eI rfl) (k1 rfl rfl rfl (congrArg bo hb2)) <| x_pu (eF rfl) P105 (l_itoa v1.1 v3 hv3) rfl (k1 rfl rfl rfl (congrArg bo hb2)) <| x_mv (eT rfl) (k1 rfl rfl rfl (congrArg bo hb2)) <| x_ct (eT rfl) (eT rfl) rfl (k1 rfl rfl rfl (congrArg bo hb2)) <| x_pt rfl hb2 (eB rfl) (k0 rfl) <| x_mv (eB rfl) (k0 rfl) <| x_mv (eT rfl) (k1 rfl rfl rfl (congrArg bo hb4)) <| x_pu (eF rfl) P106 (l_trimPrefix p0 k_x2d v5 hv5) rfl (k1 rfl rfl rfl (congrArg bo hb4)) <| x_lnT T9 (eT rfl) (k1 rfl rfl rfl (congrArg bo hb4)) <| x_ci (eX (.val (.int .i64 (v5.length : Int))) rfl) (eX (.val (.int .i64 15)) rfl) rfl (k1 rfl rfl rfl (congrArg bo hb4)) <| x_pt rfl hb4 (eB rfl) (k0 rfl) <| x_as (eB rfl) (k0 rfl) <| lx_nil, ⟨rfl, trivial⟩⟩
      · replace hq := condF hb4 hq
        replace hq := Option.some.inj hq
        subst hq
        exact ⟨_, _, x_mv (eX _ rfl) (k0 rfl) <| x_ee N107 (eX (er v1.2) rfl) (k0 rfl) <| x_mv (eB rfl) (k0 rfl) <| x_mv (eI rfl) (k1 rfl rfl rfl (congrArg bo hb2)) <| x_pu (eF rfl) P105 (l_itoa v1.1 v3 hv3) rfl (k1 rfl rfl rfl (congrArg bo hb2)) <| x_mv (eT rfl) (k1 rfl rfl rfl (congrArg bo hb2)) <| x_ct (eT rfl) (eT rfl) rfl (k1 rfl rfl rfl (congrArg bo hb2)) <| x_pt rfl hb2 (eB rfl) (k0 rfl) <| x_mv (eB rfl) (k0 rfl) <| lx_off rfl rfl (congrArg bo hb4) rfl <| lx_off rfl rfl (congrArg bo hb4) rfl <| lx_off rfl rfl (congrArg bo hb4) rfl <| lx_off rfl rfl (congrArg bo hb4) rfl <| x_pf rfl hb4 (eB rfl) (k0 rfl) <| x_as (eB rfl) (k0 rfl) <| lx_nil, ⟨rfl, trivial⟩⟩
    · replace hq := condF hb2 hq
      replace hq := Option.some.inj hq
      subst hq
      exact ⟨_, _, x_mv (eX _ rfl) (k0 rfl) <| x_ee N107 (eX (er v1.2) rfl) (k0 rfl) <| x_mv (eB rfl) (k0 rfl) <| lx_off rfl rfl (congrArg bo hb2) rfl <| lx_off rfl rfl (congrArg bo hb2) rfl <| lx_off rfl rfl (congrArg bo hb2) rfl <| lx_off rfl rfl (congrArg bo hb2) rfl <| x_pf rfl hb2 (eB rfl) (k0 rfl) <| x_mv (eB rfl) (k0 rfl) <| lx_off rfl rfl rfl rfl <| lx_off rfl rfl rfl rfl <| lx_off rfl rfl rfl rfl <| lx_off rfl rfl rfl rfl <| x_pf rfl rfl (eB rfl) (k0 rfl) <| x_as (eB rfl) (k0 rfl) <| lx_nil, ⟨rfl, trivial⟩⟩) ?_
  refine cw_ret (cw_rn ?_)
  cases h
  exact ⟨rfl, sub0⟩

theorem c_match_Norm (p0 : Str) (p1 : Str) (r : Str × Bool) (h : s_match_Norm p0 p1 = some r) : Pu Tryz.prog 51 [tx p0, tx p1] (.tup [tx r.1, bo r.2]) := by
  refine ⟨(nfc nfv (nfc nfv nfn)), (NF.tup (nfc nfv (nfc nfv nfn))), fs_start _ _ Tryz.func51 rfl Tryz.ntmps51 Tryz.results51 rfl fun X hnt hn => ?_⟩
  rw [s_match_Norm] at h
  refine cw_seq (cw_rg hnt rfl (x_as (eT rfl) (k0 rfl) <| x_as (eB rfl) (k0 rfl) <| lx_nil) (cw_seq (cw_seq ?_)))
  obtain ⟨v2, hq, h⟩ := bindE h
  refine cw_rl [(13, bo v2)] (D := [7, 8, 9, 10, 11, 12, 13]) hnt rfl rfl (by
    rcases Bool.eq_false_or_eq_true ((p1 == [])) with hb1 | hb1
    · replace hq := condT hb1 hq
      replace hq := Option.some.inj hq
      subst hq
      exact ⟨_, _, x_mv (eT rfl) (k0 rfl) <| x_ct (eT rfl) (eT rfl) rfl (k0 rfl) <| x_mv (eB rfl) (k0 rfl) <| lx_off rfl rfl (congrArg bo hb1) rfl <| lx_off rfl rfl (congrArg bo hb1) rfl <| lx_off rfl rfl (congrArg bo hb1) rfl <| x_pt rfl hb1 (eB rfl) (k0 rfl) <| lx_nil, ⟨rfl, trivial⟩⟩
    · replace hq := condF hb1 hq
      replace hq := Option.some.inj hq
      subst hq
      exact ⟨_, _, x_mv (eT rfl) (k0 rfl) <| x_ct (eT rfl) (eT rfl) rfl (k0 rfl) <| x_mv (eB rfl) (k0 rfl) <| x_mv (eT rfl) (k1 rfl rfl rfl (congrArg bo hb1)) <| x_lnT T9 (eT rfl) (k1 rfl rfl rfl (congrArg bo hb1)) <| x_ci (eX (.val (.int .i64 (p1.length : Int))) rfl) (eX (.val (.int .i64 100)) rfl) rfl (k1 rfl rfl rfl (congrArg bo hb1)) <| x_pf rfl hb1 (eB rfl) (k0 rfl) <| lx_nil, ⟨rfl, trivial⟩⟩) ?_
  refine cw_cond rfl (fun hb3 => ?_) (fun hb3 => ?_)
  · replace h := condT hb3 h
    refine cw_seq (cw_rg hnt rfl (x_as (eT rfl) (k0 rfl) <| x_as (eB rfl) (k0 rfl) <| lx_nil) (cw_ret (cw_rc (cw_rn ?_))))
    cases h
    exact ⟨rfl, sub0⟩
  · replace h := condF hb3 h
    refine cw_skip (cw_seq (cw_rg hnt rfl (x_as (eB rfl) (k0 rfl) <| lx_nil) (cw_seq (cw_seq ?_))))
    obtain ⟨v4, hv4, h⟩ := bindE h
    refine cw_rg hnt rfl (x_mv (eT rfl) (k0 rfl) <| x_pu (eF rfl) P85 (c_match_Rule p0 v4 hv4) rfl (k0 rfl) <| lx_nil) (cw_block (cw_seq (cw_rg hnt rfl (x_ci (eX (.val (.int .i64 v4)) rfl) (eX (.val (.int .i64 1)) rfl) rfl (k0 rfl) <| x_as (eB rfl) (k0 rfl) <| lx_nil) ?_)))
    refine cw_cond rfl (fun hb5 => ?_) (fun hb5 => ?_)
    · replace h := condT hb5 h
      obtain ⟨v6, hv6, h⟩ := bindE h
      refine cw_rg hnt rfl (x_mv (eT rfl) (k0 rfl) <| x_pu (eF rfl) P48 (c_dn_Fold p1 v6 hv6) rfl (k0 rfl) <| x_as (eT rfl) (k0 rfl) <| lx_nil) (cw_blk (cw_seq (cw_seq ?_)))
      obtain ⟨v7, hq, h⟩ := bindE h
      refine cw_rl [(38, bo v7)] (D := [33, 34, 35, 36, 37, 38]) hnt rfl rfl (by
        replace hq := Option.some.inj hq
        subst hq
        exact ⟨_, _, x_mv (eB rfl) (k0 rfl) <| x_not (eB rfl) (k0 rfl) <| x_mv (eB rfl) (k0 rfl) <| x_mv (eT rfl) (k1 rfl rfl rfl rfl) <| x_ct (eT rfl) (eT rfl) rfl (k1 rfl rfl rfl rfl) <| x_pf rfl rfl (eB rfl) (k0 rfl) <| lx_nil, ⟨rfl, trivial⟩⟩) ?_
      refine cw_cond rfl (fun hb8 => ?_) (fun hb8 => ?_)
      · replace h := condT hb8 h
        refine cw_seq (cw_rg hnt rfl (x_as (eT rfl) (k0 rfl) <| x_as (eB rfl) (k0 rfl) <| lx_nil) (cw_ret (cw_rc (cw_rn ?_))))
        cases h
        exact ⟨rfl, sub0⟩
      · replace h := condF hb8 h
        refine cw_skip (cw_seq (cw_rg hnt rfl (x_mv (eT rfl) (k0 rfl) <| x_as (eT rfl) (k0 rfl) <| x_as (eB rfl) (k0 rfl) <| lx_nil) (cw_ret (cw_rn ?_))))
        cases h
        exact ⟨rfl, sub0⟩
    · replace h := condF hb5 h
      refine cw_seq (cw_rg hnt rfl (x_ci (eX (.val (.int .i64 v4)) rfl) (eX (.val (.int .i64 2)) rfl) rfl (k0 rfl) <| x_as (eB rfl) (k0 rfl) <| lx_nil) ?_)
      refine cw_cond rfl (fun hb9 => ?_) (fun hb9 => ?_)
      · replace h := condT hb9 h
        obtain ⟨v10, hv10, h⟩ := bindE h
        refine cw_rg hnt rfl (x_mv (eT rfl) (k0 rfl) <| x_pu (eF rfl) P86 (c_match_number p1 v10 hv10) rfl (k0 rfl) <| x_as (eB rfl) (k0 rfl) <| lx_nil) (cw_blk (cw_seq (cw_seq ?_)))
        obtain ⟨v12, hq, h⟩ := bindE h
        refine cw_rl [(38, bo v12)] (D := [33, 34, 35, 36, 37, 38]) hnt rfl rfl (by
          rcases Bool.eq_false_or_eq_true ((!v10)) with hb11 | hb11
          · replace hq := condT hb11 hq
            replace hq := Option.some.inj hq
            subst hq
            exact ⟨_, _, x_mv (eB rfl) (k0 rfl) <| x_not (eB rfl) (k0 rfl) <| x_mv (eB rfl) (k0 rfl) <| lx_off rfl rfl (congrArg bo hb11) rfl <| lx_off rfl rfl (congrArg bo hb11) rfl <| x_pt rfl hb11 (eB rfl) (k0 rfl) <| lx_nil, ⟨rfl, trivial⟩⟩
          · replace hq := condF hb11 hq
            replace hq := Option.some.inj hq
            subst hq
            exact ⟨_, _, x_mv (eB rfl) (k0 rfl) <| x_not (eB rfl) (k0 rfl) <| x_mv (eB rfl) (k0 rfl) <| x_mv (eT rfl) (k1 rfl rfl rfl (congrArg bo hb11)) <| x_ct (eT rfl) (eT rfl) rfl (k1 rfl rfl rfl (congrArg bo hb11)) <| x_pf rfl hb11 (eB rfl) (k0 rfl) <| lx_nil, ⟨rfl, trivial⟩⟩) ?_
        refine cw_cond rfl (fun hb13 => ?_) (fun hb13 => ?_)
        · replace h := condT hb13 h
          refine cw_seq (cw_rg hnt rfl (x_as (eT rfl) (k0 rfl) <| x_as (eB rfl) (k0 rfl) <| lx_nil) (cw_ret (cw_rc (cw_rn ?_))))
          cases h
          exact ⟨rfl, sub0⟩
        · replace h := condF hb13 h
          refine cw_skip (cw_seq (cw_rg hnt rfl (x_mv (eT rfl) (k0 rfl) <| x_as (eT rfl) (k0 rfl) <| x_as (eB rfl) (k0 rfl) <| lx_nil) (cw_ret (cw_rn ?_))))
          cases h
          exact ⟨rfl, sub0⟩
      · replace h := condF hb9 h
        refine cw_seq (cw_rg hnt rfl (x_ci (eX (.val (.int .i64 v4)) rfl) (eX (.val (.int .i64 3)) rfl) rfl (k0 rfl) <| x_as (eB rfl) (k0 rfl) <| lx_nil) ?_)
        refine cw_cond rfl (fun hb14 => ?_) (fun hb14 => ?_)
        · replace h := condT hb14 h
          obtain ⟨v15, hv15, h⟩ := bindE h
          refine cw_rg hnt rfl (x_mv (eT rfl) (k0 rfl) <| x_pu (eF rfl) P29 (c_dn_Key p1 v15 hv15) rfl (k0 rfl) <| x_mv (eW rfl) (k0 rfl) <| x_ex (eW rfl) (sX (tx v15.1) rfl) (k0 rfl) <| x_ex (eW rfl) (sX (bo v15.2) rfl) (k0 rfl) <| x_as (eT rfl) (k0 rfl) <| x_as (eB rfl) (k0 rfl) <| lx_nil) (cw_blk (cw_seq (cw_seq ?_)))
          obtain ⟨v17, hq, h⟩ := bindE h
          refine cw_rl [(38, bo v17)] (D := [33, 34, 35, 36, 37, 38]) hnt rfl rfl (by
            rcases Bool.eq_false_or_eq_true ((!v15.2)) with hb16 | hb16
            · replace hq := condT hb16 hq
              replace hq := Option.some.inj hq
              subst hq
              exact ⟨_, _, x_mv (eB rfl) (k0 rfl) <| x_not (eB rfl) (k0 rfl) <| x_mv (eB rfl) (k0 rfl) <| lx_off rfl rfl (congrArg bo hb16) rfl <| lx_off rfl rfl (congrArg bo hb16) rfl <| x_pt rfl hb16 (eB rfl) (k0 rfl) <| lx_nil, ⟨rfl, trivial⟩⟩
            · replace hq := condF hb16 hq
              replace hq := Option.some.inj hq
              subst hq
              exact ⟨_, _, x_mv (eB rfl) (k0 rfl) <| x_not (eB rfl) (k0 rfl) <| x_mv (eB rfl) (k0 rfl) <| x_mv (eT rfl) (k1 rfl rfl rfl (congrArg bo hb16)) <| x_ct (eT rfl) (eT rfl) rfl (k1 rfl rfl rfl (congrArg bo hb16)) <| x_pf rfl hb16 (eB rfl) (k0 rfl) <| lx_nil, ⟨rfl, trivial⟩⟩) ?_
          refine cw_cond rfl (fun hb18 => ?_) (fun hb18 => ?_)
          · replace h := condT hb18 h
            refine cw_seq (cw_rg hnt rfl (x_as (eT rfl) (k0 rfl) <| x_as (eB rfl) (k0 rfl) <| lx_nil) (cw_ret (cw_rc (cw_rn ?_))))
            cases h
            exact ⟨rfl, sub0⟩
          · replace h := condF hb18 h
            refine cw_skip (cw_seq (cw_rg hnt rfl (x_mv (eT rfl) (k0 rfl) <| x_as (eT rfl) (k0 rfl) <| x_as (eB rfl) (k0 rfl) <| lx_nil) (cw_ret (cw_rn ?_))))
            cases h
            exact ⟨rfl, sub0⟩
        · replace h := condF hb14 h
          refine cw_seq (cw_rg hnt rfl (x_ci (eX (.val (.int .i64 v4)) rfl) (eX (.val (.int .i64 4)) rfl) rfl (k0 rfl) <| x_as (eB rfl) (k0 rfl) <| lx_nil) ?_)
          refine cw_cond rfl (fun hb19 => ?_) (fun hb19 => ?_)
          · replace h := condT hb19 h
            refine cw_skip (cw_blk (cw_seq (cw_seq ?_)))
            obtain ⟨v20, hq, h⟩ := bindE h
            refine cw_rl [(38, bo v20)] (D := [33, 34, 35, 36, 37, 38]) hnt rfl rfl (by
              replace hq := Option.some.inj hq
              subst hq
              exact ⟨_, _, x_mv (eB rfl) (k0 rfl) <| x_not (eB rfl) (k0 rfl) <| x_mv (eB rfl) (k0 rfl) <| x_mv (eT rfl) (k1 rfl rfl rfl rfl) <| x_ct (eT rfl) (eT rfl) rfl (k1 rfl rfl rfl rfl) <| x_pf rfl rfl (eB rfl) (k0 rfl) <| lx_nil, ⟨rfl, trivial⟩⟩) ?_
            refine cw_cond rfl (fun hb21 => ?_) (fun hb21 => ?_)
            · replace h := condT hb21 h
              refine cw_seq (cw_rg hnt rfl (x_as (eT rfl) (k0 rfl) <| x_as (eB rfl) (k0 rfl) <| lx_nil) (cw_ret (cw_rc (cw_rn ?_))))
              cases h
              exact ⟨rfl, sub0⟩
            · replace h := condF hb21 h
              refine cw_skip (cw_seq (cw_rg hnt rfl (x_mv (eT rfl) (k0 rfl) <| x_as (eT rfl) (k0 rfl) <| x_as (eB rfl) (k0 rfl) <| lx_nil) (cw_ret (cw_rn ?_))))
              cases h
              exact ⟨rfl, sub0⟩
          · replace h := condF hb19 h
            refine cw_rg hnt rfl (x_as (eB rfl) (k0 rfl) <| lx_nil) (cw_blk (cw_seq (cw_seq ?_)))
            obtain ⟨v22, hq, h⟩ := bindE h
            refine cw_rl [(38, bo v22)] (D := [33, 34, 35, 36, 37, 38]) hnt rfl rfl (by
              replace hq := Option.some.inj hq
              subst hq
              exact ⟨_, _, x_mv (eB rfl) (k0 rfl) <| x_not (eB rfl) (k0 rfl) <| x_mv (eB rfl) (k0 rfl) <| lx_off rfl rfl rfl rfl <| lx_off rfl rfl rfl rfl <| x_pt rfl rfl (eB rfl) (k0 rfl) <| lx_nil, ⟨rfl, trivial⟩⟩) ?_
            refine cw_cond rfl (fun hb23 => ?_) (fun hb23 => ?_)
            · replace h := condT hb23 h
              refine cw_seq (cw_rg hnt rfl (x_as (eT rfl) (k0 rfl) <| x_as (eB rfl) (k0 rfl) <| lx_nil) (cw_ret (cw_rc (cw_rn ?_))))
              cases h
              exact ⟨rfl, sub0⟩
            · replace h := condF hb23 h
              refine cw_skip (cw_seq (cw_rg hnt rfl (x_mv (eT rfl) (k0 rfl) <| x_as (eT rfl) (k0 rfl) <| x_as (eB rfl) (k0 rfl) <| lx_nil) (cw_ret (cw_rn ?_))))
              cases h
              exact ⟨rfl, sub0⟩

theorem c_schema_attribute (p0 : T_Attr) (p1 : List Str) (r : Int) (h : s_schema_attribute p0 p1 = some r) : Pu Tryz.prog 30 [.agg (enc p0), ar p1] (i64 r) := by
  refine ⟨(nfc nfe (nfc nfa nfn)), nfv, fs_start _ _ Tryz.func30 rfl Tryz.ntmps30 Tryz.results30 rfl fun X hnt hn => ?_⟩
  rw [s_schema_attribute] at h
  refine cw_seq (cw_rg hnt rfl (x_bx rfl (k0 rfl) <| x_as (eI rfl) (k0 rfl) <| lx_nil) (cw_seq ?_))
  obtain ⟨v1, hv1, h⟩ := bindE h
  refine cw_rg hnt rfl (x_fp F42_0 (eP rfl) (k0 rfl) <| x_ld L9 (eP rfl) rfl (sX (tx p0.Typ) rfl) (k0 rfl) <| x_pu (eF rfl) P31 (c_match_Canon p0.Typ v1 hv1) rfl (k0 rfl) <| x_mv (eW rfl) (k0 rfl) <| x_ex (eW rfl) (sX (tx v1.1) rfl) (k0 rfl) <| x_ex (eW rfl) (sX (bo v1.2) rfl) (k0 rfl) <| x_as (eT rfl) (k0 rfl) <| x_as (eB rfl) (k0 rfl) <| lx_nil) (cw_seq (cw_block (cw_seq (cw_rg hnt rfl (x_mv (eB rfl) (k0 rfl) <| x_not (eB rfl) (k0 rfl) <| x_as (eB rfl) (k0 rfl) <| lx_nil) ?_))))
  refine cw_cond rfl (fun hb2 => ?_) (fun hb2 => ?_)
  · replace h := condT hb2 h
    refine cw_seq (cw_rg hnt rfl (x_as (eI rfl) (k0 rfl) <| lx_nil) (cw_ret (cw_rb (cw_rc (cw_rn ?_)))))
    cases h
    exact ⟨rfl, sub0⟩
  · replace h := condF hb2 h
    refine cw_seq ?_
    obtain ⟨v3, hv3, h⟩ := bindE h
    refine cw_rg hnt rfl (x_mv (eA rfl) (k0 rfl) <| x_mv (eT rfl) (k0 rfl) <| x_pu (eF rfl) P50 (c_slices_Contains_string p1 v1.1 v3 hv3) rfl (k0 rfl) <| x_as (eB rfl) (k0 rfl) <| lx_nil) ?_
    refine cw_cond rfl (fun hb4 => ?_) (fun hb4 => ?_)
    · replace h := condT hb4 h
      refine cw_seq (cw_rg hnt rfl (x_as (eI rfl) (k0 rfl) <| lx_nil) (cw_ret (cw_rb (cw_rc (cw_rn ?_)))))
      cases h
      exact ⟨rfl, sub0⟩
    · replace h := condF hb4 h
      refine cw_seq ?_
      obtain ⟨v8, hq, h⟩ := bindE h
      refine cw_rl [(25, bo v8)] (D := [26, 27, 28, 29, 30, 31, 32, 33, 34, 35, 36, 37, 38, 39, 40, 41, 42, 43, 44, 45, 25]) hnt rfl rfl (by
        rcases Bool.eq_false_or_eq_true (((p0.Vals.length : Int) == 0)) with hb5 | hb5
        · replace hq := condT hb5 hq
          replace hq := Option.some.inj hq
          subst hq
          exact ⟨_, _, x_fp F42_1 (eP rfl) (k0 rfl) <| x_ld L27 (eP rfl) rfl (sX (ar p0.Vals) rfl) (k0 rfl) <| x_lnA E27 (eX (ar p0.Vals) rfl) (k0 rfl) <| x_ci (eX (.val (.int .i64 (p0.Vals.length : Int))) rfl) (eX (.val (.int .i64 0)) rfl) rfl (k0 rfl) <| x_mv (eB rfl) (k0 rfl) <| lx_off rfl rfl (congrArg bo hb5) rfl <| lx_off rfl rfl (congrArg bo hb5) rfl <| lx_off rfl rfl (congrArg bo hb5) rfl <| lx_off rfl rfl (congrArg bo hb5) rfl <| x_pt rfl hb5 (eB rfl) (k0 rfl) <| x_mv (eB rfl) (k0 rfl) <| lx_off rfl rfl rfl rfl <| lx_off rfl rfl rfl rfl <| lx_off rfl rfl rfl rfl <| lx_dead rfl rfl rfl rfl <| lx_dead rfl rfl rfl rfl <| lx_dead rfl rfl rfl rfl <| lx_dead rfl rfl rfl rfl <| lx_off rfl rfl rfl rfl <| x_pt rfl rfl (eB rfl) (k0 rfl) <| x_as (eB rfl) (k0 rfl) <| lx_nil, ⟨rfl, trivial⟩⟩
        · replace hq := condF hb5 hq
          rcases Bool.eq_false_or_eq_true ((decide ((p0.Vals.length : Int) > 40))) with hb6 | hb6
          · replace hq := condT hb6 hq
            replace hq := Option.some.inj hq
            subst hq
            exact ⟨_, _, x_fp F42_1 (eP rfl) (k0 rfl) <| x_ld L27 (eP rfl) rfl (sX (ar p0.Vals) rfl) (k0 rfl) <| x_lnA E27 (eX (ar p0.Vals) rfl) (k0 rfl) <| x_ci (eX (.val (.int .i64 (p0.Vals.length : Int))) rfl) (eX (.val (.int .i64 0)) rfl) rfl (k0 rfl) <| x_mv (eB rfl) (k0 rfl) <| x_fp F42_1 (eP rfl) (k1 rfl rfl rfl (congrArg bo hb5)) <| x_ld L27 (eP rfl) rfl (sX (ar p0.Vals) rfl) (k1 rfl rfl rfl (congrArg bo hb5)) <| x_lnA E27 (eX (ar p0.Vals) rfl) (k1 rfl rfl rfl (congrArg bo hb5)) <| x_ci (eX (.val (.int .i64 (p0.Vals.length : Int))) rfl) (eX (.val (.int .i64 40)) rfl) rfl (k1 rfl rfl rfl (congrArg bo hb5)) <| x_pf rfl hb5 (eB rfl) (k0 rfl) <| x_mv (eB rfl) (k0 rfl) <| lx_off rfl rfl (congrArg bo hb6) rfl <| lx_off rfl rfl (congrArg bo hb6) rfl <| lx_off rfl rfl (congrArg bo hb6) rfl <| lx_dead rfl rfl rfl rfl <| lx_dead rfl rfl rfl rfl <| lx_dead rfl rfl rfl rfl <| lx_dead rfl rfl rfl rfl <| lx_off rfl rfl (congrArg bo hb6) rfl <| x_pt rfl hb6 (eB rfl) (k0 rfl) <| x_as (eB rfl) (k0 rfl) <| lx_nil, ⟨rfl, trivial⟩⟩
          · replace hq := condF hb6 hq
            rcases Bool.eq_false_or_eq_true ((v1.1 == k_uidnumber)) with hb7 | hb7
            · replace hq := condT hb7 hq
              replace hq := Option.some.inj hq
              subst hq
              exact ⟨_, _, x_fp F42_1 (eP rfl) (k0 rfl) <| x_ld L27 (eP rfl) rfl (sX (ar p0.Vals) rfl) (k0 rfl) <| x_lnA E27 (eX (ar p0.Vals) rfl) (k0 rfl) <| x_ci (eX (.val (.int .i64 (p0.Vals.length : Int))) rfl) (eX (.val (.int .i64 0)) rfl) rfl (k0 rfl) <| x_mv (eB rfl) (k0 rfl) <| x_fp F42_1 (eP rfl) (k1 rfl rfl rfl (congrArg bo hb5)) <| x_ld L27 (eP rfl) rfl (sX (ar p0.Vals) rfl) (k1 rfl rfl rfl (congrArg bo hb5)) <| x_lnA E27 (eX (ar p0.Vals) rfl) (k1 rfl rfl rfl (congrArg bo hb5)) <| x_ci (eX (.val (.int .i64 (p0.Vals.length : Int))) rfl) (eX (.val (.int .i64 40)) rfl) rfl (k1 rfl rfl rfl (congrArg bo hb5)) <| x_pf rfl hb5 (eB rfl) (k0 rfl) <| x_mv (eB rfl) (k0 rfl) <| x_mv (eT rfl) (k1 rfl rfl rfl (congrArg bo hb6)) <| x_ct (eT rfl) (eT rfl) rfl (k1 rfl rfl rfl (congrArg bo hb6)) <| x_mv (eB rfl) (k1 rfl rfl rfl (congrArg bo hb6)) <| x_fp F42_1 (eP rfl) (k1 rfl rfl rfl (congrArg bo hb7)) <| x_ld L27 (eP rfl) rfl (sX (ar p0.Vals) rfl) (k1 rfl rfl rfl (congrArg bo hb7)) <| x_lnA E27 (eX (ar p0.Vals) rfl) (k1 rfl rfl rfl (congrArg bo hb7)) <| x_ci (eX (.val (.int .i64 (p0.Vals.length : Int))) rfl) (eX (.val (.int .i64 1)) rfl) rfl (k1 rfl rfl rfl (congrArg bo hb7)) <| x_pt rfl hb7 (eB rfl) (k1 rfl rfl rfl (congrArg bo hb6)) <| x_pf rfl hb6 (eB rfl) (k0 rfl) <| x_as (eB rfl) (k0 rfl) <| lx_nil, ⟨rfl, trivial⟩⟩
            · replace hq := condF hb7 hq
              replace hq := Option.some.inj hq
              subst hq
              exact ⟨_, _, x_fp F42_1 (eP rfl) (k0 rfl) <| x_ld L27 (eP rfl) rfl (sX (ar p0.Vals) rfl) (k0 rfl) <| x_lnA E27 (eX (ar p0.Vals) rfl) (k0 rfl) <| x_ci (eX (.val (.int .i64 (p0.Vals.length : Int))) rfl) (eX (.val (.int .i64 0)) rfl) rfl (k0 rfl) <| x_mv (eB rfl) (k0 rfl) <| x_fp F42_1 (eP rfl) (k1 rfl rfl rfl (congrArg bo hb5)) <| x_ld L27 (eP rfl) rfl (sX (ar p0.Vals) rfl) (k1 rfl rfl rfl (congrArg bo hb5)) <| x_lnA E27 (eX (ar p0.Vals) rfl) (k1 rfl rfl rfl (congrArg bo hb5)) <| x_ci (eX (.val (.int .i64 (p0.Vals.length : Int))) rfl) (eX (.val (.int .i64 40)) rfl) rfl (k1 rfl rfl rfl (congrArg bo hb5)) <| x_pf rfl hb5 (eB rfl) (k0 rfl) <| x_mv (eB rfl) (k0 rfl) <| x_mv (eT rfl) (k1 rfl rfl rfl (congrArg bo hb6)) <| x_ct (eT rfl) (eT rfl) rfl (k1 rfl rfl rfl (congrArg bo hb6)) <| x_mv (eB rfl) (k1 rfl rfl rfl (congrArg bo hb6)) <| lx_off rfl rfl (congrArg bo hb7) rfl <| lx_off rfl rfl (congrArg bo hb7) rfl <| lx_off rfl rfl (congrArg bo hb7) rfl <| lx_off rfl rfl (congrArg bo hb7) rfl <| x_pf rfl hb7 (eB rfl) (k1 rfl rfl rfl (congrArg bo hb6)) <| x_pf rfl hb6 (eB rfl) (k0 rfl) <| x_as (eB rfl) (k0 rfl) <| lx_nil, ⟨rfl, trivial⟩⟩) ?_
      refine cw_cond rfl (fun hb9 => ?_) (fun hb9 => ?_)
      · replace h := condT hb9 h
        refine cw_seq (cw_rg hnt rfl (x_as (eI rfl) (k0 rfl) <| lx_nil) (cw_ret (cw_rb (cw_rc (cw_rn ?_)))))
        cases h
        exact ⟨rfl, sub0⟩
      · replace h := condF hb9 h
        refine cw_skip (cw_blk (cw_seq (cw_rg hnt rfl (x_as (eV rfl) (k0 rfl) <| lx_nil) (cw_seq (cw_seq (cw_rg hnt rfl (x_fp F42_1 (eP rfl) (k0 rfl) <| x_ld L27 (eP rfl) rfl (sX (ar p0.Vals) rfl) (k0 rfl) <| x_lnA E27 (eX (ar p0.Vals) rfl) (k0 rfl) <| x_mv (eI rfl) (k0 rfl) <| lx_nil) ?_))))))
        refine cw_cut (fun st => ∃ (v30 : List Str), schema_attribute_k1 p0 v30 = some r ∧ st = ⟨ls [(2, .ptr 0 0 0), (7, .own 43 0 v30.length)], hl [(0, ⟨[[tx p0.Typ, ar p0.Vals]], 2⟩), (43, ob (v30 : List Str))], 45⟩) ?_ ?_
        · skip
          refine cw_block (cw_to (to_ren (N := 0) (n' := 44) (L := [(2, .ptr 0 0 0), (5, tx v1.1), (7, .own 43 0 0), (47, ar p0.Vals), (48, i64 (p0.Vals.length : Int)), (49, i64 0)]) (H := [(0, ⟨[[tx p0.Typ, ar p0.Vals]], 2⟩), (43, ob ([] : List Str))]) (id) [0] [43] hn rfl rfl rfl fix0 (by decide) ⟨(Tr.ptr rfl), trv, (Tr.nilOwn rfl), tra, trv, trv, trivial⟩ ⟨.inr ⟨rfl, _, rfl, TrO.cell (.cons trv (.cons tra .nil)) rfl⟩, .inl ⟨rfl, rfl⟩, trivial⟩) ?_)
          refine cw_loop (fun g st => ∃ (v41 : Int) (v40 : List Str), schema_attribute_l1 p0 v1 g v41 v40 = some r ∧ st = ⟨ls [(2, .ptr 0 0 0), (5, tx v1.1), (7, .own 43 0 v40.length), (47, ar p0.Vals), (48, i64 (p0.Vals.length : Int)), (49, i64 v41)], hl [(0, ⟨[[tx p0.Typ, ar p0.Vals]], 2⟩), (43, ob (v40 : List Str))], 44⟩) FUEL ⟨0, [], h, rfl⟩ ?_
          rintro g _ ⟨v41, v40, h, rfl⟩
          rcases g with _ | g1
          · rw [schema_attribute_l1] at h; cases h
          rw [schema_attribute_l1] at h
          refine cw_seq (cw_rg hnt rfl (x_ci (eX (.val (.int .i64 v41)) rfl) (eX (.val (.int .i64 (p0.Vals.length : Int))) rfl) rfl (k0 rfl) <| lx_nil) (cw_seq ?_))
          refine cw_cond rfl (fun hb48 => ?_) (fun hb48 => ?_)
          · replace h := condT hb48 h
            refine cw_skip (cw_seq (cw_block (cw_seq ?_)))
            obtain ⟨v49, hv49, h⟩ := bindE h
            refine cw_rg hnt rfl (x_ia E27 rfl (eX (ar p0.Vals) rfl) rfl hv49 (k0 rfl) <| x_ld L9 (eQ rfl) rfl (sX (tx v49) rfl) (k0 rfl) <| x_as (eT rfl) (k0 rfl) <| lx_nil) (cw_seq ?_)
            obtain ⟨v50, hv50, h⟩ := bindE h
            refine cw_rg hnt rfl (x_mv (eT rfl) (k0 rfl) <| x_mv (eT rfl) (k0 rfl) <| x_pu (eF rfl) P51 (c_match_Norm v1.1 v49 v50 hv50) rfl (k0 rfl) <| x_mv (eW rfl) (k0 rfl) <| x_ex (eW rfl) (sX (tx v50.1) rfl) (k0 rfl) <| x_ex (eW rfl) (sX (bo v50.2) rfl) (k0 rfl) <| x_as (eT rfl) (k0 rfl) <| x_as (eB rfl) (k0 rfl) <| lx_nil) (cw_seq (cw_seq (cw_rg hnt rfl (x_mv (eB rfl) (k0 rfl) <| x_not (eB rfl) (k0 rfl) <| lx_nil) ?_)))
            refine cw_cond rfl (fun hb51 => ?_) (fun hb51 => ?_)
            · replace h := condT hb51 h
              refine cw_seq (cw_rg hnt rfl (x_as (eI rfl) (k0 rfl) <| lx_nil) (cw_ret (cw_rc (cw_rb (cw_rc (cw_rt (cw_rb (cw_rt (cw_rc (cw_rn ?_))))))))))
              cases h
              exact ⟨rfl, sub0⟩
            · replace h := condF hb51 h
              refine cw_skip ?_
              obtain ⟨v52, hv52, h⟩ := bindE h
              refine cw_rg hnt rfl (x_mv (eO rfl) (k0 rfl) <| x_mv (eT rfl) (k0 rfl) <| x_bsA ([v50.1] : List Str) E27 rfl rfl (k0 rfl) <| x_apO (l1 := v40) E27 rfl rfl rfl (vlA' (l := ([v50.1] : List Str)) rfl rfl) hv52 (k0 rfl) <| x_as (eO rfl) (k0 rfl) <| lx_nil) (cw_blk ?_)
              obtain ⟨v53, hv53, h⟩ := bindE h
              refine cw_rg hnt rfl (x_ai (eI rfl) (eI rfl) hv53 (k0 rfl) <| x_mv (eI rfl) (k0 rfl) <| lx_nil) (cw_nil ?_)
              exact ⟨g1, _, Nat.lt_succ_self _, (to_ren (N := 0) (n' := 44) (L := [(2, .ptr 0 0 0), (5, tx v1.1), (7, .own 43 0 v52.length), (47, ar p0.Vals), (48, i64 (p0.Vals.length : Int)), (49, i64 v53)]) (H := [(0, ⟨[[tx p0.Typ, ar p0.Vals]], 2⟩), (43, ob (v52 : List Str))]) (fun y => bif Nat.beq y 43 then 61 else y) [0, 43] [] hn rfl rfl rfl fix0 (by decide) ⟨(Tr.ptr rfl), trv, (Tr.own rfl), tra, trv, trv, trivial⟩ ⟨.inr ⟨rfl, _, rfl, TrO.cell (.cons trv (.cons tra .nil)) rfl⟩, .inr ⟨rfl, _, rfl, tro⟩, trivial⟩), v53, v52, h, rfl⟩
          · replace h := condF hb48 h
            refine cw_exit (cw_xc (cw_xt (cw_xb (cw_nil ?_))))
            exact ⟨_, (to_ren (N := 0) (n' := 45) (L := [(2, .ptr 0 0 0), (7, .own 43 0 v40.length)]) (H := [(0, ⟨[[tx p0.Typ, ar p0.Vals]], 2⟩), (43, ob (v40 : List Str))]) (id) [0, 43] [] hn rfl rfl rfl fix0 (by decide) ⟨(Tr.ptr rfl), (Tr.own rfl), trivial⟩ ⟨.inr ⟨rfl, _, rfl, TrO.cell (.cons trv (.cons tra .nil)) rfl⟩, .inr ⟨rfl, _, rfl, tro⟩, trivial⟩), v40, h, rfl⟩
        · rintro _ ⟨v30, h, rfl⟩
          rw [schema_attribute_k1] at h
          refine cw_seq ?_
          obtain ⟨v31, hv31, h⟩ := bindE h
          refine cw_rg hnt rfl (x_mv (eO rfl) (k0 rfl) <| x_fx (eF rfl) P52 (l_sortS (id := 43) (n := 46) rfl v30 v31 hv31) (subH ⟨rfl, trivial⟩) rfl (k0 rfl) <| lx_nil) (cw_seq (cw_seq (cw_to (to_ren (N := 0) (n' := 47) (L := [(2, .ptr 0 0 0), (7, .own 43 0 ((sortL v30).length))]) (H := [(0, ⟨[[tx p0.Typ, ar p0.Vals]], 2⟩), (43, ob ((sortL v30) : List Str))]) (id) [0, 43] [] hn rfl rfl rfl fix0 (by decide) ⟨(Tr.ptr rfl), (Tr.ownE rfl (by simp)), trivial⟩ ⟨.inr ⟨rfl, _, rfl, TrO.cell (.cons trv (.cons tra .nil)) rfl⟩, .inr ⟨rfl, _, rfl, tro⟩, trivial⟩) ?_)))
          obtain ⟨v32, hv32, h⟩ := bindE h
          refine cw_ra [43] [(1, [7])] [(3, [7]), (4, [7]), (5, [7])] [6] hnt rfl Tryz.mixed (by kernel_rfl) rfl (by decide) (x_mv (eO rfl) (k0 rfl) <| x_fx (eF rfl) P53 (l_compactS (id := 43) (n := 48) rfl (sortL v30) v32 hv32) (subH ⟨rfl, trivial⟩) rfl (k0 rfl) <| x_ln (n := v32.length) E27 rfl (k0 rfl) <| x_fp F42_1 (eP rfl) (k0 rfl) <| x_ld L27 (eP rfl) rfl (sX (ar p0.Vals) rfl) (k0 rfl) <| x_lnA E27 (eX (ar p0.Vals) rfl) (k0 rfl) <| x_ci (eX (.val (.int .i64 (v32.length : Int))) rfl) (eX (.val (.int .i64 (p0.Vals.length : Int))) rfl) rfl (k0 rfl) <| lx_nil) ?_
          refine cw_cond rfl (fun hb33 => ?_) (fun hb33 => ?_)
          · replace h := condT hb33 h
            refine cw_seq (cw_rg hnt rfl (x_as (eI rfl) (k0 rfl) <| lx_nil) (cw_ret (cw_rc (cw_rn ?_))))
            cases h
            exact ⟨rfl, sub0⟩
          · replace h := condF hb33 h
            refine cw_skip (cw_seq (cw_rg hnt rfl (x_as (eI rfl) (k0 rfl) <| lx_nil) (cw_ret (cw_rn ?_))))
            cases h
            exact ⟨rfl, sub0⟩

theorem c_schema_lowered (p0 : Str) (r : Str) (h : s_schema_lowered p0 = some r) : Pu Tryz.prog 25 [tx p0] (tx r) := by
  refine ⟨(nfc nfv nfn), nfv, fs_start _ _ Tryz.func25 rfl Tryz.ntmps25 Tryz.results25 rfl fun X hnt hn => ?_⟩
  rw [s_schema_lowered] at h
  refine cw_seq (cw_rg hnt rfl (x_as (eT rfl) (k0 rfl) <| lx_nil) (cw_seq ?_))
  obtain ⟨v1, hv1, h⟩ := bindE h
  refine cw_rg hnt rfl (x_mv (eT rfl) (k0 rfl) <| x_tob T9 Y38 (eT rfl) hv1 (k0 rfl) <| x_as (eO rfl) (k0 rfl) <| lx_nil) (cw_seq (cw_seq (cw_rg hnt rfl (x_mv (eO rfl) (k0 rfl) <| x_ln (n := v1.length) E38 rfl (k0 rfl) <| x_mv (eI rfl) (k0 rfl) <| lx_nil) ?_)))
  refine cw_cut (fun st => ∃ (v28 : Str), schema_lowered_k1 v28 = some r ∧ st = ⟨ls [(3, .own 2 0 v28.length)], hl [(2, ob (v28 : Str))], 8⟩) ?_ ?_
  · skip
    refine cw_block (cw_to (to_ren (N := 0) (n' := 7) (L := [(3, .own 2 0 v1.length), (8, .own 2 0 v1.length), (9, i64 (v1.length : Int)), (10, i64 0)]) (H := [(2, ob (v1 : Str))]) (id) [2] [] hn rfl rfl rfl fix0 (by decide) ⟨(Tr.own rfl), (Tr.own rfl), trv, trv, trivial⟩ ⟨.inr ⟨rfl, _, rfl, tro⟩, trivial⟩) ?_)
    refine cw_loop (fun g st => ∃ (v38 : Int) (v37 : Str), schema_lowered_l1 v1 g v38 v37 = some r ∧ st = ⟨ls [(3, .own 2 0 v37.length), (8, .own 2 0 v37.length), (9, i64 (v1.length : Int)), (10, i64 v38)], hl [(2, ob (v37 : Str))], 7⟩) FUEL ⟨0, v1, h, rfl⟩ ?_
    rintro g _ ⟨v38, v37, h, rfl⟩
    rcases g with _ | g1
    · rw [schema_lowered_l1] at h; cases h
    rw [schema_lowered_l1] at h
    refine cw_seq (cw_rg hnt rfl (x_ci (eX (.val (.int .i64 v38)) rfl) (eX (.val (.int .i64 (v1.length : Int))) rfl) rfl (k0 rfl) <| lx_nil) (cw_seq ?_))
    refine cw_cond rfl (fun hb47 => ?_) (fun hb47 => ?_)
    · replace h := condT hb47 h
      refine cw_skip (cw_seq (cw_block (cw_seq ?_)))
      obtain ⟨v48, hv48, h⟩ := bindE h
      refine cw_rg hnt rfl (x_mv (eI rfl) (k0 rfl) <| x_io E38 rfl (eO rfl) rfl rfl (lgB hv48) (k0 rfl) <| x_ldE L5 (eP rfl) rfl (lgO hv48) (sX (u8 v48) rfl) (k0 rfl) <| x_as (eI rfl) (k0 rfl) <| x_as (eU v48 rfl) (k0 rfl) <| lx_nil) (cw_seq ?_)
      obtain ⟨v50, hq, h⟩ := bindE h
      refine cw_rl [(20, bo v50)] (D := [15, 16, 17, 18, 19, 20]) hnt rfl rfl (by
        rcases Bool.eq_false_or_eq_true ((decide (65 ≤ v48))) with hb49 | hb49
        · replace hq := condT hb49 hq
          replace hq := Option.some.inj hq
          subst hq
          exact ⟨_, _, x_mv (eU v48 rfl) (k0 rfl) <| x_cu (eU 65 rfl) (eU v48 rfl) rfl (k0 rfl) <| x_mv (eB rfl) (k0 rfl) <| x_mv (eU v48 rfl) (k1 rfl rfl rfl (congrArg bo hb49)) <| x_cu (eU v48 rfl) (eU 90 rfl) rfl (k1 rfl rfl rfl (congrArg bo hb49)) <| x_pt rfl hb49 (eB rfl) (k0 rfl) <| lx_nil, ⟨rfl, trivial⟩⟩
        · replace hq := condF hb49 hq
          replace hq := Option.some.inj hq
          subst hq
          exact ⟨_, _, x_mv (eU v48 rfl) (k0 rfl) <| x_cu (eU 65 rfl) (eU v48 rfl) rfl (k0 rfl) <| x_mv (eB rfl) (k0 rfl) <| lx_off rfl rfl (congrArg bo hb49) rfl <| lx_off rfl rfl (congrArg bo hb49) rfl <| x_pf rfl hb49 (eB rfl) (k0 rfl) <| lx_nil, ⟨rfl, trivial⟩⟩) ?_
      refine cw_cond rfl (fun hb51 => ?_) (fun hb51 => ?_)
      · replace h := condT hb51 h
        obtain ⟨v52, hv52, h⟩ := bindE h
        refine cw_rg hnt rfl (x_mv (eO rfl) (k0 rfl) <| x_mv (eI rfl) (k0 rfl) <| x_mv (eU v48 rfl) (k0 rfl) <| x_au (eU v48 rfl) (eU 97 rfl) rfl (k0 rfl) <| x_au (eU (v48 + 97) rfl) (eU 65 rfl) rfl (k0 rfl) <| x_io E38 rfl (eO rfl) rfl rfl (lgB hv52) (k0 rfl) <| x_stE (a' := ((v48 + 97) - 65)) L5 (eP rfl) rfl rfl (lgO hv52) rfl rfl (k0 rfl) <| lx_nil) (cw_blk ?_)
        obtain ⟨v53, hv53, h⟩ := bindE h
        refine cw_rg hnt rfl (x_ai (eI rfl) (eI rfl) hv53 (k0 rfl) <| x_mv (eI rfl) (k0 rfl) <| lx_nil) (cw_nil ?_)
        exact ⟨g1, _, Nat.lt_succ_self _, (to_ren (N := 0) (n' := 7) (L := [(3, .own 2 0 ((v37.set v38.toNat ((v48 + 97) - 65)).length)), (8, .own 2 0 ((v37.set v38.toNat ((v48 + 97) - 65)).length)), (9, i64 (v1.length : Int)), (10, i64 v53)]) (H := [(2, ob ((v37.set v38.toNat ((v48 + 97) - 65)) : Str))]) (id) [2] [] hn rfl rfl rfl fix0 (by decide) ⟨(Tr.ownE rfl (by simp)), (Tr.ownE rfl (by simp)), trv, trv, trivial⟩ ⟨.inr ⟨rfl, _, rfl, tro⟩, trivial⟩), v53, (v37.set v38.toNat ((v48 + 97) - 65)), h, rfl⟩
      · replace h := condF hb51 h
        refine cw_skip (cw_blk ?_)
        obtain ⟨v54, hv54, h⟩ := bindE h
        refine cw_rg hnt rfl (x_ai (eI rfl) (eI rfl) hv54 (k0 rfl) <| x_mv (eI rfl) (k0 rfl) <| lx_nil) (cw_nil ?_)
        exact ⟨g1, _, Nat.lt_succ_self _, (to_ren (N := 0) (n' := 7) (L := [(3, .own 2 0 v37.length), (8, .own 2 0 v37.length), (9, i64 (v1.length : Int)), (10, i64 v54)]) (H := [(2, ob (v37 : Str))]) (id) [2] [] hn rfl rfl rfl fix0 (by decide) ⟨(Tr.own rfl), (Tr.own rfl), trv, trv, trivial⟩ ⟨.inr ⟨rfl, _, rfl, tro⟩, trivial⟩), v54, v37, h, rfl⟩
    · replace h := condF hb47 h
      refine cw_exit (cw_xc (cw_xt (cw_xb (cw_nil ?_))))
      exact ⟨_, (to_ren (N := 0) (n' := 8) (L := [(3, .own 2 0 v37.length)]) (H := [(2, ob (v37 : Str))]) (id) [2] [] hn rfl rfl rfl fix0 (by decide) ⟨(Tr.own rfl), trivial⟩ ⟨.inr ⟨rfl, _, rfl, tro⟩, trivial⟩), v37, h, rfl⟩
  · rintro _ ⟨v28, h, rfl⟩
    rw [schema_lowered_k1] at h
    refine cw_seq (cw_rg hnt rfl (x_mv (eO rfl) (k0 rfl) <| x_tos (s := v28) Y38 T9 rfl rfl (k0 rfl) <| x_as (eT rfl) (k0 rfl) <| lx_nil) (cw_ret (cw_rn ?_)))
    cases h
    exact ⟨rfl, sub0⟩

theorem c_match_norms (p0 : Str) (p1 : Str) (p2 : Str) (r : Str × Str × Bool) (h : s_match_norms p0 p1 p2 = some r) : Pu Tryz.prog 56 [tx p0, tx p1, tx p2] (.tup [tx r.1, tx r.2.1, bo r.2.2]) := by
  refine ⟨(nfc nfv (nfc nfv (nfc nfv nfn))), (NF.tup (nfc nfv (nfc nfv (nfc nfv nfn)))), fs_start _ _ Tryz.func56 rfl Tryz.ntmps56 Tryz.results56 rfl fun X hnt hn => ?_⟩
  rw [s_match_norms] at h
  refine cw_seq (cw_rg hnt rfl (x_as (eT rfl) (k0 rfl) <| x_as (eT rfl) (k0 rfl) <| x_as (eB rfl) (k0 rfl) <| lx_nil) (cw_seq ?_))
  obtain ⟨v1, hv1, h⟩ := bindE h
  refine cw_rg hnt rfl (x_mv (eT rfl) (k0 rfl) <| x_mv (eT rfl) (k0 rfl) <| x_pu (eF rfl) P51 (c_match_Norm p0 p1 v1 hv1) rfl (k0 rfl) <| x_mv (eW rfl) (k0 rfl) <| x_ex (eW rfl) (sX (tx v1.1) rfl) (k0 rfl) <| x_ex (eW rfl) (sX (bo v1.2) rfl) (k0 rfl) <| x_as (eT rfl) (k0 rfl) <| x_as (eB rfl) (k0 rfl) <| lx_nil) (cw_seq ?_)
  obtain ⟨v2, hv2, h⟩ := bindE h
  refine cw_rg hnt rfl (x_mv (eT rfl) (k0 rfl) <| x_mv (eT rfl) (k0 rfl) <| x_pu (eF rfl) P51 (c_match_Norm p0 p2 v2 hv2) rfl (k0 rfl) <| x_mv (eW rfl) (k0 rfl) <| x_ex (eW rfl) (sX (tx v2.1) rfl) (k0 rfl) <| x_ex (eW rfl) (sX (bo v2.2) rfl) (k0 rfl) <| x_as (eT rfl) (k0 rfl) <| x_as (eB rfl) (k0 rfl) <| lx_nil) (cw_seq ?_)
  obtain ⟨v4, hq, h⟩ := bindE h
  refine cw_rl [(6, tx v4.1), (7, tx v4.2.1), (8, bo v4.2.2)] (D := [22, 23, 24, 25, 26, 27, 6, 7, 8]) hnt rfl rfl (by
    rcases Bool.eq_false_or_eq_true (v1.2) with hb3 | hb3
    · replace hq := condT hb3 hq
      replace hq := Option.some.inj hq
      subst hq
      exact ⟨_, _, x_mv (eT rfl) (k0 rfl) <| x_mv (eT rfl) (k0 rfl) <| x_mv (eB rfl) (k0 rfl) <| x_mv (eB rfl) (k0 rfl) <| x_mv (eB rfl) (k1 rfl rfl rfl (congrArg bo hb3)) <| x_pt rfl hb3 (eB rfl) (k0 rfl) <| x_as (eT rfl) (k0 rfl) <| x_as (eT rfl) (k0 rfl) <| x_as (eB rfl) (k0 rfl) <| lx_nil, ⟨rfl, rfl, rfl, trivial⟩⟩
    · replace hq := condF hb3 hq
      replace hq := Option.some.inj hq
      subst hq
      exact ⟨_, _, x_mv (eT rfl) (k0 rfl) <| x_mv (eT rfl) (k0 rfl) <| x_mv (eB rfl) (k0 rfl) <| x_mv (eB rfl) (k0 rfl) <| lx_off rfl rfl (congrArg bo hb3) rfl <| x_pf rfl hb3 (eB rfl) (k0 rfl) <| x_as (eT rfl) (k0 rfl) <| x_as (eT rfl) (k0 rfl) <| x_as (eB rfl) (k0 rfl) <| lx_nil, ⟨rfl, rfl, rfl, trivial⟩⟩) ?_
  refine cw_ret (cw_rn ?_)
  cases h
  exact ⟨rfl, sub0⟩

theorem c_match_Same (p0 : Str) (p1 : Str) (p2 : Str) (r : Bool) (h : s_match_Same p0 p1 p2 = some r) : Pu Tryz.prog 34 [tx p0, tx p1, tx p2] (bo r) := by
  refine ⟨(nfc nfv (nfc nfv (nfc nfv nfn))), nfv, fs_start _ _ Tryz.func34 rfl Tryz.ntmps34 Tryz.results34 rfl fun X hnt hn => ?_⟩
  rw [s_match_Same] at h
  refine cw_seq (cw_rg hnt rfl (x_as (eB rfl) (k0 rfl) <| lx_nil) (cw_seq ?_))
  obtain ⟨v1, hv1, h⟩ := bindE h
  refine cw_rg hnt rfl (x_mv (eT rfl) (k0 rfl) <| x_mv (eT rfl) (k0 rfl) <| x_mv (eT rfl) (k0 rfl) <| x_pu (eF rfl) P56 (c_match_norms p0 p1 p2 v1 hv1) rfl (k0 rfl) <| x_mv (eW rfl) (k0 rfl) <| x_ex (eW rfl) (sX (tx v1.1) rfl) (k0 rfl) <| x_ex (eW rfl) (sX (tx v1.2.1) rfl) (k0 rfl) <| x_ex (eW rfl) (sX (bo v1.2.2) rfl) (k0 rfl) <| x_as (eT rfl) (k0 rfl) <| x_as (eT rfl) (k0 rfl) <| x_as (eB rfl) (k0 rfl) <| lx_nil) (cw_seq ?_)
  obtain ⟨v3, hq, h⟩ := bindE h
  refine cw_rl [(6, bo v3)] (D := [18, 19, 20, 21, 22, 23, 6]) hnt rfl rfl (by
    rcases Bool.eq_false_or_eq_true (v1.2.2) with hb2 | hb2
    · replace hq := condT hb2 hq
      replace hq := Option.some.inj hq
      subst hq
      exact ⟨_, _, x_mv (eB rfl) (k0 rfl) <| x_mv (eB rfl) (k0 rfl) <| x_mv (eT rfl) (k1 rfl rfl rfl (congrArg bo hb2)) <| x_mv (eT rfl) (k1 rfl rfl rfl (congrArg bo hb2)) <| x_ct (eT rfl) (eT rfl) rfl (k1 rfl rfl rfl (congrArg bo hb2)) <| x_pt rfl hb2 (eB rfl) (k0 rfl) <| x_as (eB rfl) (k0 rfl) <| lx_nil, ⟨rfl, trivial⟩⟩
    · replace hq := condF hb2 hq
      replace hq := Option.some.inj hq
      subst hq
      exact ⟨_, _, x_mv (eB rfl) (k0 rfl) <| x_mv (eB rfl) (k0 rfl) <| lx_off rfl rfl (congrArg bo hb2) rfl <| lx_off rfl rfl (congrArg bo hb2) rfl <| lx_off rfl rfl (congrArg bo hb2) rfl <| x_pf rfl hb2 (eB rfl) (k0 rfl) <| x_as (eB rfl) (k0 rfl) <| lx_nil, ⟨rfl, trivial⟩⟩) ?_
  refine cw_ret (cw_rn ?_)
  cases h
  exact ⟨rfl, sub0⟩

theorem c_schema_Check_1 (p0 : Str) (p1 : Str) (p2 : T_Rdn) (r : Bool) (h : s_schema_Check_1 p0 p1 p2 = some r) : FS Tryz.prog 33 [tx p0, .ptr 0 0 0, .ptr 1 0 0] (hl [(0, ⟨[[tx p1]], 1⟩), (1, ⟨[[tx p2.Typ, tx p2.Val]], 2⟩)]) 2 (bo r) [] := by
  refine fs_start _ _ Tryz.func33 rfl Tryz.ntmps33 Tryz.results33 rfl fun X hnt hn => ?_
  rw [s_schema_Check_1] at h
  refine cw_seq (cw_rg hnt rfl (x_as (eB rfl) (k0 rfl) <| lx_nil) (cw_seq ?_))
  obtain ⟨v1, hv1, h⟩ := bindE h
  refine cw_rg hnt rfl (x_ld L9 (eP rfl) rfl (sX (tx p1) rfl) (k0 rfl) <| x_mv (eT rfl) (k0 rfl) <| x_fp F49_1 (eP rfl) (k0 rfl) <| x_ld L9 (eP rfl) rfl (sX (tx p2.Val) rfl) (k0 rfl) <| x_pu (eF rfl) P34 (c_match_Same p1 p0 p2.Val v1 hv1) rfl (k0 rfl) <| x_as (eB rfl) (k0 rfl) <| lx_nil) (cw_ret (cw_rn ?_))
  cases h
  exact ⟨rfl, subH ⟨rfl, rfl, trivial⟩⟩
theorem q_schema_Check_1 (p1 : Str) (p2 : T_Rdn) (is : List Nat) (n : Nat) (hnd : is.Nodup) (hlt : (is.all fun i => Nat.blt i n) = true) (hpl : plain Tryz.prog 33 = true) (hlen : is.length = 2 := by rfl) : Clo Tryz.prog 33 (ptrs is) (hl (is.zip [⟨[[tx p1]], 1⟩, ⟨[[tx p2.Typ, tx p2.Val]], 2⟩])) n (fun x : Str => [tx x]) (fun b : Bool => bo b) (fun x => s_schema_Check_1 x p1 p2) :=
  clo_of (os := [⟨[[tx p1]], 1⟩, ⟨[[tx p2.Typ, tx p2.Val]], 2⟩]) hpl hlen (nfoc (nfo1 (nfc nfv nfn)) (nfoc (nfo1 (nfc nfv (nfc nfv nfn))) nfon)) (fun x => (nfc nfv nfn)) (fun b => nfv) (fun x b h => c_schema_Check_1 x p1 p2 b h) hnd hlt

theorem c_slices_IndexFunc_string {f : Nat} {caps : List V} {Mc : Hp} {n : Nat} (p0 : List Str) (p1 : Str → Option Bool) (hc : Clo Tryz.prog f caps Mc n (fun x : Str => [tx x]) (fun b : Bool => bo b) p1) (r : Int) (h : s_slices_IndexFunc_string p0 p1 = some r) : Fx Tryz.prog 55 [ar p0, .fn f caps] Mc n (i64 r) [] := by
  refine fx_ho hc (nfcF nfa (nffF nfF)) nfv (fs_start _ _ Tryz.func55 rfl Tryz.ntmps55 Tryz.results55 rfl fun X hnt hn => ?_)
  rw [s_slices_IndexFunc_string] at h
  refine cw_seq (cw_rg (n1 := n + 1) hnt rfl (x_as (eI rfl) (k0 rfl) <| lx_nil) (cw_seq (cw_seq (cw_rg (n1 := n + 4) hnt rfl (x_mv (eA rfl) (k0 rfl) <| x_lnA E27 (eX (ar p0) rfl) (k0 rfl) <| x_mv (eI rfl) (k0 rfl) <| lx_nil) ?_))))
  refine cw_cut (fun st => ∃ (m2 : Nat), n ≤ m2 ∧ slices_IndexFunc_string_k1 = some r ∧ st = ⟨ls [], Mc, m2⟩) ?_ ?_
  · skip
    refine cw_block (cw_to (to_keep (n' := n + 4) (by omega) (L := [(0, ar p0), (1, .fn f caps), (7, i64 (p0.length : Int)), (8, i64 0)]) ⟨wkr, wkr, wkr, wkr, trivial⟩) ?_)
    refine cw_loop (fun g st => ∃ (m3 : Nat) (v22 : Int), n ≤ m3 ∧ slices_IndexFunc_string_l1 p0 p1 g v22 = some r ∧ st = ⟨ls [(0, ar p0), (1, .fn f caps), (7, i64 (p0.length : Int)), (8, i64 v22)], Mc, m3⟩) FUEL ⟨n + 4, 0, by omega, h, rfl⟩ ?_
    rintro g _ ⟨m3, v22, hm3, h, rfl⟩
    rcases g with _ | g1
    · rw [slices_IndexFunc_string_l1] at h; cases h
    rw [slices_IndexFunc_string_l1] at h
    refine cw_seq (cw_rg (n1 := m3 + 1) hnt rfl (x_ci (eX (.val (.int .i64 v22)) rfl) (eX (.val (.int .i64 (p0.length : Int))) rfl) rfl (k0 rfl) <| lx_nil) (cw_seq ?_))
    refine cw_cond rfl (fun hb28 => ?_) (fun hb28 => ?_)
    · replace h := condT hb28 h
      refine cw_skip (cw_seq (cw_block (cw_seq (cw_rg (n1 := m3 + 3) hnt rfl (x_mv (eI rfl) (k0 rfl) <| x_as (eI rfl) (k0 rfl) <| lx_nil) (cw_seq ?_)))))
      obtain ⟨v29, hv29, h⟩ := bindE h
      obtain ⟨v30, hv30, h⟩ := bindE h
      refine cw_rg (n1 := m3 + 9) hnt rfl (x_mv (eF rfl) (k0 rfl) <| x_mv (eA rfl) (k0 rfl) <| x_mv (eI rfl) (k0 rfl) <| x_ia E27 rfl (eX (ar p0) rfl) rfl hv29 (k0 rfl) <| x_ld L9 (eQ rfl) rfl (sX (tx v29) rfl) (k0 rfl) <| x_fx (eF rfl) hc.pl (hc.run v29 v30 hv30 _ (by simp only [G0, anyG]; omega)) (fun _ _ h => h) rfl (k0 rfl) <| lx_nil) ?_
      refine cw_cond rfl (fun hb31 => ?_) (fun hb31 => ?_)
      · replace h := condT hb31 h
        refine cw_seq (cw_rg (n1 := m3 + 11) hnt rfl (x_mv (eI rfl) (k0 rfl) <| x_as (eI rfl) (k0 rfl) <| lx_nil) (cw_ret (cw_rb (cw_rc (cw_rt (cw_rb (cw_rt (cw_rc (cw_rn ?_)))))))))
        cases h
        exact ⟨rfl, fun _ _ h => h⟩
      · replace h := condF hb31 h
        refine cw_skip (cw_blk ?_)
        obtain ⟨v32, hv32, h⟩ := bindE h
        refine cw_rg (n1 := m3 + 11) hnt rfl (x_ai (eI rfl) (eI rfl) hv32 (k0 rfl) <| x_mv (eI rfl) (k0 rfl) <| lx_nil) (cw_nil ?_)
        exact ⟨g1, _, Nat.lt_succ_self _, (to_keep (n' := m3 + 11) (by omega) (L := [(0, ar p0), (1, .fn f caps), (7, i64 (p0.length : Int)), (8, i64 v32)]) ⟨wkr, wkr, wkr, wkr, trivial⟩), m3 + 11, v32, by omega, h, rfl⟩
    · replace h := condF hb28 h
      refine cw_exit (cw_xc (cw_xt (cw_xb (cw_nil ?_))))
      exact ⟨_, (to_keep (n' := m3 + 1) (by omega) (L := []) trivial), m3 + 1, by omega, h, rfl⟩
  · rintro _ ⟨m2, hm2, h, rfl⟩
    rw [slices_IndexFunc_string_k1] at h
    refine cw_seq (cw_rg (n1 := m2 + 1) hnt rfl (x_as (eI rfl) (k0 rfl) <| lx_nil) (cw_ret (cw_rn ?_)))
    cases h
    exact ⟨rfl, fun _ _ h => h⟩

theorem c_slices_ContainsFunc_string {f : Nat} {caps : List V} {Mc : Hp} {n : Nat} (p0 : List Str) (p1 : Str → Option Bool) (hc : Clo Tryz.prog f caps Mc n (fun x : Str => [tx x]) (fun b : Bool => bo b) p1) (r : Bool) (h : s_slices_ContainsFunc_string p0 p1 = some r) : Fx Tryz.prog 32 [ar p0, .fn f caps] Mc n (bo r) [] := by
  refine fx_ho hc (nfcF nfa (nffF nfF)) nfv (fs_start _ _ Tryz.func32 rfl Tryz.ntmps32 Tryz.results32 rfl fun X hnt hn => ?_)
  rw [s_slices_ContainsFunc_string] at h
  refine cw_seq (cw_rg (n1 := n + 1) hnt rfl (x_as (eB rfl) (k0 rfl) <| lx_nil) (cw_seq ?_))
  obtain ⟨v1, hv1, h⟩ := bindE h
  refine cw_rg (n1 := n + 6) hnt rfl (x_mv (eA rfl) (k0 rfl) <| x_mv (eF rfl) (k0 rfl) <| x_fx (eF rfl) P55 (c_slices_IndexFunc_string p0 p1 (hc.mono (by simp only [G0, anyG]; omega)) v1 hv1) (fun _ _ h => h) rfl (k0 rfl) <| x_ci (eX (.val (.int .i64 v1)) rfl) (eX (.val (.int .i64 0)) rfl) rfl (k0 rfl) <| x_as (eB rfl) (k0 rfl) <| lx_nil) (cw_ret (cw_rn ?_))
  cases h
  exact ⟨rfl, fun _ _ h => h⟩

theorem c_schema_classes (r : List T_Class) (h : s_schema_classes = some r) : Pu Tryz.prog 22 [] (ar r) := by
  refine ⟨nfn, nfa, fs_start _ _ Tryz.func22 rfl Tryz.ntmps22 Tryz.results22 rfl fun X hnt hn => ?_⟩
  rw [s_schema_classes] at h
  refine cw_seq (cw_rg hnt rfl (x_as (eV rfl) (k0 rfl) <| lx_nil) (cw_seq (cw_rg hnt rfl (x_as (eV rfl) (k0 rfl) <| lx_nil) (cw_seq (cw_seq (cw_rg hnt rfl (x_bdA A77 (sX3 ([tx k_top, tx [], tx [], tx k_objectclass, tx []]) rfl) (k0 rfl) <| x_bdA A77 (sX3 ([tx k_organization, tx k_top, tx k_S, tx k_o, tx k_description]) rfl) (k0 rfl) <| x_bdA A77 (sX3 ([tx k_organizationalunit, tx k_top, tx k_S, tx k_ou, tx k_description]) rfl) (k0 rfl) <| x_bdA A77 (sX3 ([tx k_person, tx k_top, tx k_S, tx k_x636e20736e, tx k_x6465736372697074696f6e207573657270617373]) rfl) (k0 rfl) <| x_bdA A77 (sX3 ([tx k_inetorgperson, tx k_person, tx k_S, tx [], tx k_x756964206d61696c]) rfl) (k0 rfl) <| x_bdA A77 (sX3 ([tx k_posix, tx k_top, tx [], tx k_x756964207569646e756d626572, tx []]) rfl) (k0 rfl) <| x_bdA A77 (sX3 ([tx k_groupofnames, tx k_top, tx k_S, tx k_x636e206d656d626572, tx k_description]) rfl) (k0 rfl) <| x_bsA ([(⟨k_top, [], [], k_objectclass, []⟩ : T_arr5Str), (⟨k_organization, k_top, k_S, k_o, k_description⟩ : T_arr5Str), (⟨k_organizationalunit, k_top, k_S, k_ou, k_description⟩ : T_arr5Str), (⟨k_person, k_top, k_S, k_x636e20736e, k_x6465736372697074696f6e207573657270617373⟩ : T_arr5Str), (⟨k_inetorgperson, k_person, k_S, [], k_x756964206d61696c⟩ : T_arr5Str), (⟨k_posix, k_top, [], k_x756964207569646e756d626572, []⟩ : T_arr5Str), (⟨k_groupofnames, k_top, k_S, k_x636e206d656d626572, k_description⟩ : T_arr5Str)] : List T_arr5Str) E78 rfl rfl (k0 rfl) <| x_lnA E78 (eX (ar ([(⟨k_top, [], [], k_objectclass, []⟩ : T_arr5Str), (⟨k_organization, k_top, k_S, k_o, k_description⟩ : T_arr5Str), (⟨k_organizationalunit, k_top, k_S, k_ou, k_description⟩ : T_arr5Str), (⟨k_person, k_top, k_S, k_x636e20736e, k_x6465736372697074696f6e207573657270617373⟩ : T_arr5Str), (⟨k_inetorgperson, k_person, k_S, [], k_x756964206d61696c⟩ : T_arr5Str), (⟨k_posix, k_top, [], k_x756964207569646e756d626572, []⟩ : T_arr5Str), (⟨k_groupofnames, k_top, k_S, k_x636e206d656d626572, k_description⟩ : T_arr5Str)] : List T_arr5Str)) rfl) (k0 rfl) <| x_mv (eI rfl) (k0 rfl) <| lx_nil) ?_))))))
  refine cw_cut (fun st => ∃ (v21 : List T_Class), schema_classes_k1 v21 = some r ∧ st = ⟨ls [(1, .own 12 0 v21.length)], hl [(12, ob (v21 : List T_Class))], 14⟩) ?_ ?_
  · skip
    refine cw_block (cw_to (to_ren (N := 0) (n' := 13) (L := [(1, .own 12 0 0), (11, ar ([(⟨k_top, [], [], k_objectclass, []⟩ : T_arr5Str), (⟨k_organization, k_top, k_S, k_o, k_description⟩ : T_arr5Str), (⟨k_organizationalunit, k_top, k_S, k_ou, k_description⟩ : T_arr5Str), (⟨k_person, k_top, k_S, k_x636e20736e, k_x6465736372697074696f6e207573657270617373⟩ : T_arr5Str), (⟨k_inetorgperson, k_person, k_S, [], k_x756964206d61696c⟩ : T_arr5Str), (⟨k_posix, k_top, [], k_x756964207569646e756d626572, []⟩ : T_arr5Str), (⟨k_groupofnames, k_top, k_S, k_x636e206d656d626572, k_description⟩ : T_arr5Str)] : List T_arr5Str)), (12, i64 ([(⟨k_top, [], [], k_objectclass, []⟩ : T_arr5Str), (⟨k_organization, k_top, k_S, k_o, k_description⟩ : T_arr5Str), (⟨k_organizationalunit, k_top, k_S, k_ou, k_description⟩ : T_arr5Str), (⟨k_person, k_top, k_S, k_x636e20736e, k_x6465736372697074696f6e207573657270617373⟩ : T_arr5Str), (⟨k_inetorgperson, k_person, k_S, [], k_x756964206d61696c⟩ : T_arr5Str), (⟨k_posix, k_top, [], k_x756964207569646e756d626572, []⟩ : T_arr5Str), (⟨k_groupofnames, k_top, k_S, k_x636e206d656d626572, k_description⟩ : T_arr5Str)].length : Int)), (13, i64 0)]) (H := [(12, ob ([] : List T_Class))]) (id) [] [12] hn rfl rfl rfl fix0 .nil ⟨(Tr.nilOwn rfl), tra, trv, trv, trivial⟩ ⟨.inl ⟨rfl, rfl⟩, trivial⟩) ?_)
    refine cw_loop (fun g st => ∃ (v29 : Int) (v28 : List T_Class), schema_classes_l1 g v29 v28 = some r ∧ st = ⟨ls [(1, .own 12 0 v28.length), (11, ar ([(⟨k_top, [], [], k_objectclass, []⟩ : T_arr5Str), (⟨k_organization, k_top, k_S, k_o, k_description⟩ : T_arr5Str), (⟨k_organizationalunit, k_top, k_S, k_ou, k_description⟩ : T_arr5Str), (⟨k_person, k_top, k_S, k_x636e20736e, k_x6465736372697074696f6e207573657270617373⟩ : T_arr5Str), (⟨k_inetorgperson, k_person, k_S, [], k_x756964206d61696c⟩ : T_arr5Str), (⟨k_posix, k_top, [], k_x756964207569646e756d626572, []⟩ : T_arr5Str), (⟨k_groupofnames, k_top, k_S, k_x636e206d656d626572, k_description⟩ : T_arr5Str)] : List T_arr5Str)), (12, i64 ([(⟨k_top, [], [], k_objectclass, []⟩ : T_arr5Str), (⟨k_organization, k_top, k_S, k_o, k_description⟩ : T_arr5Str), (⟨k_organizationalunit, k_top, k_S, k_ou, k_description⟩ : T_arr5Str), (⟨k_person, k_top, k_S, k_x636e20736e, k_x6465736372697074696f6e207573657270617373⟩ : T_arr5Str), (⟨k_inetorgperson, k_person, k_S, [], k_x756964206d61696c⟩ : T_arr5Str), (⟨k_posix, k_top, [], k_x756964207569646e756d626572, []⟩ : T_arr5Str), (⟨k_groupofnames, k_top, k_S, k_x636e206d656d626572, k_description⟩ : T_arr5Str)].length : Int)), (13, i64 v29)], hl [(12, ob (v28 : List T_Class))], 13⟩) FUEL ⟨0, [], h, rfl⟩ ?_
    rintro g _ ⟨v29, v28, h, rfl⟩
    rcases g with _ | g1
    · rw [schema_classes_l1] at h; cases h
    rw [schema_classes_l1] at h
    refine cw_seq (cw_rg hnt rfl (x_ci (eX (.val (.int .i64 v29)) rfl) (eX (.val (.int .i64 ([(⟨k_top, [], [], k_objectclass, []⟩ : T_arr5Str), (⟨k_organization, k_top, k_S, k_o, k_description⟩ : T_arr5Str), (⟨k_organizationalunit, k_top, k_S, k_ou, k_description⟩ : T_arr5Str), (⟨k_person, k_top, k_S, k_x636e20736e, k_x6465736372697074696f6e207573657270617373⟩ : T_arr5Str), (⟨k_inetorgperson, k_person, k_S, [], k_x756964206d61696c⟩ : T_arr5Str), (⟨k_posix, k_top, [], k_x756964207569646e756d626572, []⟩ : T_arr5Str), (⟨k_groupofnames, k_top, k_S, k_x636e206d656d626572, k_description⟩ : T_arr5Str)].length : Int))) rfl) rfl (k0 rfl) <| lx_nil) (cw_seq ?_))
    refine cw_cond rfl (fun hb36 => ?_) (fun hb36 => ?_)
    · replace h := condT hb36 h
      refine cw_skip (cw_seq (cw_block (cw_seq ?_)))
      obtain ⟨v37, hv37, h⟩ := bindE h
      refine cw_rg hnt rfl (x_ia E78 rfl (eX (ar ([(⟨k_top, [], [], k_objectclass, []⟩ : T_arr5Str), (⟨k_organization, k_top, k_S, k_o, k_description⟩ : T_arr5Str), (⟨k_organizationalunit, k_top, k_S, k_ou, k_description⟩ : T_arr5Str), (⟨k_person, k_top, k_S, k_x636e20736e, k_x6465736372697074696f6e207573657270617373⟩ : T_arr5Str), (⟨k_inetorgperson, k_person, k_S, [], k_x756964206d61696c⟩ : T_arr5Str), (⟨k_posix, k_top, [], k_x756964207569646e756d626572, []⟩ : T_arr5Str), (⟨k_groupofnames, k_top, k_S, k_x636e206d656d626572, k_description⟩ : T_arr5Str)] : List T_arr5Str)) rfl) rfl hv37 (k0 rfl) <| x_ld L77 (eQ rfl) rfl (sX (.agg [tx v37.x0, tx v37.x1, tx v37.x2, tx v37.x3, tx v37.x4]) rfl) (k0 rfl) <| x_al Z77 (k0 rfl) <| x_st L77 (eP rfl) rfl rfl rfl rfl (k0 rfl) <| lx_nil) ?_
      obtain ⟨v38, hv38, h⟩ := bindE h
      obtain ⟨v39, hv39, h⟩ := bindE h
      obtain ⟨v40, hv40, h⟩ := bindE h
      refine cw_ra [12] [] [] [16, 17] hnt rfl Tryz.mixed (by kernel_rfl) rfl (by decide) (x_mv (eO rfl) (k0 rfl) <| x_ip (q := 0) A77 (eP rfl) rfl rfl (k0 rfl) <| x_ld L9 (eP rfl) rfl (sX (tx v37.x0) rfl) (k0 rfl) <| x_ip (q := 1) A77 (eP rfl) rfl rfl (k0 rfl) <| x_ld L9 (eP rfl) rfl (sX (tx v37.x1) rfl) (k0 rfl) <| x_ip (q := 2) A77 (eP rfl) rfl rfl (k0 rfl) <| x_ld L9 (eP rfl) rfl (sX (tx v37.x2) rfl) (k0 rfl) <| x_ct (eT rfl) (eT rfl) rfl (k0 rfl) <| x_ip (q := 3) A77 (eP rfl) rfl rfl (k0 rfl) <| x_ld L9 (eP rfl) rfl (sX (tx v37.x3) rfl) (k0 rfl) <| x_pu (eF rfl) P42 (Nw.pu (l_fields v37.x3 v38 hv38)) rfl (k0 rfl) <| x_ip (q := 4) A77 (eP rfl) rfl rfl (k0 rfl) <| x_ld L9 (eP rfl) rfl (sX (tx v37.x4) rfl) (k0 rfl) <| x_pu (eF rfl) P42 (Nw.pu (l_fields v37.x4 v39 hv39)) rfl (k0 rfl) <| x_bd B29 (sX3 ([tx v37.x0, tx v37.x1, bo (v37.x2 == k_S), ar v38, ar v39]) rfl) (k0 rfl) <| x_bsA ([(⟨v37.x0, v37.x1, (v37.x2 == k_S), v38, v39⟩ : T_Class)] : List T_Class) E55 rfl rfl (k0 rfl) <| x_apO (l1 := v28) E55 rfl rfl rfl (vlA' (l := ([(⟨v37.x0, v37.x1, (v37.x2 == k_S), v38, v39⟩ : T_Class)] : List T_Class)) rfl rfl) hv40 (k0 rfl) <| x_as (eO rfl) (k0 rfl) <| lx_nil) (cw_blk ?_)
      obtain ⟨v41, hv41, h⟩ := bindE h
      refine cw_rg hnt rfl (x_ai (eI rfl) (eI rfl) hv41 (k0 rfl) <| x_mv (eI rfl) (k0 rfl) <| lx_nil) (cw_nil ?_)
      exact ⟨g1, _, Nat.lt_succ_self _, (to_ren (N := 0) (n' := 13) (L := [(1, .own 12 0 v40.length), (11, ar ([(⟨k_top, [], [], k_objectclass, []⟩ : T_arr5Str), (⟨k_organization, k_top, k_S, k_o, k_description⟩ : T_arr5Str), (⟨k_organizationalunit, k_top, k_S, k_ou, k_description⟩ : T_arr5Str), (⟨k_person, k_top, k_S, k_x636e20736e, k_x6465736372697074696f6e207573657270617373⟩ : T_arr5Str), (⟨k_inetorgperson, k_person, k_S, [], k_x756964206d61696c⟩ : T_arr5Str), (⟨k_posix, k_top, [], k_x756964207569646e756d626572, []⟩ : T_arr5Str), (⟨k_groupofnames, k_top, k_S, k_x636e206d656d626572, k_description⟩ : T_arr5Str)] : List T_arr5Str)), (12, i64 ([(⟨k_top, [], [], k_objectclass, []⟩ : T_arr5Str), (⟨k_organization, k_top, k_S, k_o, k_description⟩ : T_arr5Str), (⟨k_organizationalunit, k_top, k_S, k_ou, k_description⟩ : T_arr5Str), (⟨k_person, k_top, k_S, k_x636e20736e, k_x6465736372697074696f6e207573657270617373⟩ : T_arr5Str), (⟨k_inetorgperson, k_person, k_S, [], k_x756964206d61696c⟩ : T_arr5Str), (⟨k_posix, k_top, [], k_x756964207569646e756d626572, []⟩ : T_arr5Str), (⟨k_groupofnames, k_top, k_S, k_x636e206d656d626572, k_description⟩ : T_arr5Str)].length : Int)), (13, i64 v41)]) (H := [(12, ob (v40 : List T_Class))]) (fun y => bif Nat.beq y 12 then 34 else y) [12] [] hn rfl rfl rfl fix0 (by decide) ⟨(Tr.own rfl), tra, trv, trv, trivial⟩ ⟨.inr ⟨rfl, _, rfl, tro⟩, trivial⟩), v41, v40, h, rfl⟩
    · replace h := condF hb36 h
      refine cw_exit (cw_xc (cw_xt (cw_xb (cw_nil ?_))))
      exact ⟨_, (to_ren (N := 0) (n' := 14) (L := [(1, .own 12 0 v28.length)]) (H := [(12, ob (v28 : List T_Class))]) (id) [12] [] hn rfl rfl rfl fix0 (by decide) ⟨(Tr.own rfl), trivial⟩ ⟨.inr ⟨rfl, _, rfl, tro⟩, trivial⟩), v28, h, rfl⟩
  · rintro _ ⟨v21, h, rfl⟩
    rw [schema_classes_k1] at h
    refine cw_seq (cw_rg hnt rfl (x_mv (eO rfl) (k0 rfl) <| x_as (eO rfl) (k0 rfl) <| lx_nil) (cw_to (to_fz 12 (L := [(0, ar v21)]) (H := []) (o := ob (v21 : List T_Class)) rfl ⟨fzO, trivial⟩ trivial) (cw_ret (cw_rn ?_))))
    cases h
    exact ⟨rfl, sub0⟩

theorem c_schema_Find_1 (p0 : T_Class) (p1 : Str) (r : Bool) (h : s_schema_Find_1 p0 p1 = some r) : FS Tryz.prog 24 [.agg (enc p0), .ptr 0 0 0] (hl [(0, ⟨[[tx p1]], 1⟩)]) 1 (bo r) [] := by
  refine fs_start _ _ Tryz.func24 rfl Tryz.ntmps24 Tryz.results24 rfl fun X hnt hn => ?_
  rw [s_schema_Find_1] at h
  refine cw_seq (cw_rg hnt rfl (x_bx rfl (k0 rfl) <| x_as (eB rfl) (k0 rfl) <| lx_nil) (cw_seq ?_))
  obtain ⟨v1, hv1, h⟩ := bindE h
  refine cw_ra [] [] [] [4, 5] hnt rfl Tryz.mixed (by kernel_rfl) rfl (by decide) (x_fp F29_0 (eP rfl) (k0 rfl) <| x_ld L9 (eP rfl) rfl (sX (tx p0.Name) rfl) (k0 rfl) <| x_ld L9 (eP rfl) rfl (sX (tx p1) rfl) (k0 rfl) <| x_pu (eF rfl) P25 (c_schema_lowered p1 v1 hv1) rfl (k0 rfl) <| x_ct (eT rfl) (eT rfl) rfl (k0 rfl) <| x_as (eB rfl) (k0 rfl) <| lx_nil) (cw_ret (cw_rn ?_))
  cases h
  exact ⟨rfl, subH ⟨rfl, trivial⟩⟩
theorem q_schema_Find_1 (p1 : Str) (is : List Nat) (n : Nat) (hnd : is.Nodup) (hlt : (is.all fun i => Nat.blt i n) = true) (hpl : plain Tryz.prog 24 = true) (hlen : is.length = 1 := by rfl) : Clo Tryz.prog 24 (ptrs is) (hl (is.zip [⟨[[tx p1]], 1⟩])) n (fun x : T_Class => [.agg (enc x)]) (fun b : Bool => bo b) (fun x => s_schema_Find_1 x p1) :=
  clo_of (os := [⟨[[tx p1]], 1⟩]) hpl hlen (nfoc (nfo1 (nfc nfv nfn)) nfon) (fun x => (nfc nfe nfn)) (fun b => nfv) (fun x b h => c_schema_Find_1 x p1 b h) hnd hlt

theorem c_slices_IndexFunc_Class {f : Nat} {caps : List V} {Mc : Hp} {n : Nat} (p0 : List T_Class) (p1 : T_Class → Option Bool) (hc : Clo Tryz.prog f caps Mc n (fun x : T_Class => [.agg (enc x)]) (fun b : Bool => bo b) p1) (r : Int) (h : s_slices_IndexFunc_Class p0 p1 = some r) : Fx Tryz.prog 23 [ar p0, .fn f caps] Mc n (i64 r) [] := by
  refine fx_ho hc (nfcF nfa (nffF nfF)) nfv (fs_start _ _ Tryz.func23 rfl Tryz.ntmps23 Tryz.results23 rfl fun X hnt hn => ?_)
  rw [s_slices_IndexFunc_Class] at h
  refine cw_seq (cw_rg (n1 := n + 1) hnt rfl (x_as (eI rfl) (k0 rfl) <| lx_nil) (cw_seq (cw_seq (cw_rg (n1 := n + 4) hnt rfl (x_mv (eA rfl) (k0 rfl) <| x_lnA E55 (eX (ar p0) rfl) (k0 rfl) <| x_mv (eI rfl) (k0 rfl) <| lx_nil) ?_))))
  refine cw_cut (fun st => ∃ (m2 : Nat), n ≤ m2 ∧ slices_IndexFunc_Class_k1 = some r ∧ st = ⟨ls [], Mc, m2⟩) ?_ ?_
  · skip
    refine cw_block (cw_to (to_keep (n' := n + 4) (by omega) (L := [(0, ar p0), (1, .fn f caps), (7, i64 (p0.length : Int)), (8, i64 0)]) ⟨wkr, wkr, wkr, wkr, trivial⟩) ?_)
    refine cw_loop (fun g st => ∃ (m3 : Nat) (v22 : Int), n ≤ m3 ∧ slices_IndexFunc_Class_l1 p0 p1 g v22 = some r ∧ st = ⟨ls [(0, ar p0), (1, .fn f caps), (7, i64 (p0.length : Int)), (8, i64 v22)], Mc, m3⟩) FUEL ⟨n + 4, 0, by omega, h, rfl⟩ ?_
    rintro g _ ⟨m3, v22, hm3, h, rfl⟩
    rcases g with _ | g1
    · rw [slices_IndexFunc_Class_l1] at h; cases h
    rw [slices_IndexFunc_Class_l1] at h
    refine cw_seq (cw_rg (n1 := m3 + 1) hnt rfl (x_ci (eX (.val (.int .i64 v22)) rfl) (eX (.val (.int .i64 (p0.length : Int))) rfl) rfl (k0 rfl) <| lx_nil) (cw_seq ?_))
    refine cw_cond rfl (fun hb28 => ?_) (fun hb28 => ?_)
    · replace h := condT hb28 h
      refine cw_skip (cw_seq (cw_block (cw_seq (cw_rg (n1 := m3 + 3) hnt rfl (x_mv (eI rfl) (k0 rfl) <| x_as (eI rfl) (k0 rfl) <| lx_nil) (cw_seq ?_)))))
      obtain ⟨v29, hv29, h⟩ := bindE h
      obtain ⟨v30, hv30, h⟩ := bindE h
      refine cw_rg (n1 := m3 + 9) hnt rfl (x_mv (eF rfl) (k0 rfl) <| x_mv (eA rfl) (k0 rfl) <| x_mv (eI rfl) (k0 rfl) <| x_ia E55 rfl (eX (ar p0) rfl) rfl hv29 (k0 rfl) <| x_ld L29 (eQ rfl) rfl (sX (.agg [tx v29.Name, tx v29.Sup, bo v29.Structural, ar v29.Must, ar v29.May]) rfl) (k0 rfl) <| x_fx (eF rfl) hc.pl (hc.run v29 v30 hv30 _ (by simp only [G0, anyG]; omega)) (fun _ _ h => h) rfl (k0 rfl) <| lx_nil) ?_
      refine cw_cond rfl (fun hb31 => ?_) (fun hb31 => ?_)
      · replace h := condT hb31 h
        refine cw_seq (cw_rg (n1 := m3 + 11) hnt rfl (x_mv (eI rfl) (k0 rfl) <| x_as (eI rfl) (k0 rfl) <| lx_nil) (cw_ret (cw_rb (cw_rc (cw_rt (cw_rb (cw_rt (cw_rc (cw_rn ?_)))))))))
        cases h
        exact ⟨rfl, fun _ _ h => h⟩
      · replace h := condF hb31 h
        refine cw_skip (cw_blk ?_)
        obtain ⟨v32, hv32, h⟩ := bindE h
        refine cw_rg (n1 := m3 + 11) hnt rfl (x_ai (eI rfl) (eI rfl) hv32 (k0 rfl) <| x_mv (eI rfl) (k0 rfl) <| lx_nil) (cw_nil ?_)
        exact ⟨g1, _, Nat.lt_succ_self _, (to_keep (n' := m3 + 11) (by omega) (L := [(0, ar p0), (1, .fn f caps), (7, i64 (p0.length : Int)), (8, i64 v32)]) ⟨wkr, wkr, wkr, wkr, trivial⟩), m3 + 11, v32, by omega, h, rfl⟩
    · replace h := condF hb28 h
      refine cw_exit (cw_xc (cw_xt (cw_xb (cw_nil ?_))))
      exact ⟨_, (to_keep (n' := m3 + 1) (by omega) (L := []) trivial), m3 + 1, by omega, h, rfl⟩
  · rintro _ ⟨m2, hm2, h, rfl⟩
    rw [slices_IndexFunc_Class_k1] at h
    refine cw_seq (cw_rg (n1 := m2 + 1) hnt rfl (x_as (eI rfl) (k0 rfl) <| lx_nil) (cw_ret (cw_rn ?_)))
    cases h
    exact ⟨rfl, fun _ _ h => h⟩

theorem c_schema_Find (p0 : Str) (r : T_Class × Bool) (h : s_schema_Find p0 = some r) : Pu Tryz.prog 11 [tx p0] (.tup [.agg (enc r.1), bo r.2]) := by
  refine ⟨(nfc nfv nfn), (NF.tup (nfc nfe (nfc nfv nfn))), fs_start _ _ Tryz.func11 rfl Tryz.ntmps11 Tryz.results11 rfl fun X hnt hn => ?_⟩
  rw [s_schema_Find] at h
  refine cw_seq (cw_rg hnt rfl (x_bx rfl (k0 rfl) <| x_al Z29 (k0 rfl) <| x_as (eB rfl) (k0 rfl) <| lx_nil) (cw_seq ?_))
  obtain ⟨v1, hv1, h⟩ := bindE h
  refine cw_rg hnt rfl (x_pu (eF rfl) P22 (c_schema_classes v1 hv1) rfl (k0 rfl) <| x_as (eA rfl) (k0 rfl) <| lx_nil) (cw_seq ?_)
  obtain ⟨v2, hv2, h⟩ := bindE h
  refine cw_rg hnt rfl (x_mv (eA rfl) (k0 rfl) <| x_mf (eXL [.ptr 0 0 0] rfl) (k0 rfl) <| x_fx (eF rfl) P23 (c_slices_IndexFunc_Class v1 (fun x => s_schema_Find_1 x p0) (q_schema_Find_1 p0 [0] 7 (by decide) rfl P24) v2 hv2) (subH ⟨rfl, trivial⟩) rfl (k0 rfl) <| x_as (eI rfl) (k0 rfl) <| lx_nil) (cw_seq (cw_seq (cw_rg hnt rfl (x_mv (eI rfl) (k0 rfl) <| x_ci (eX (.val (.int .i64 v2)) rfl) (eX (.val (.int .i64 0)) rfl) rfl (k0 rfl) <| lx_nil) ?_)))
  refine cw_cond rfl (fun hb3 => ?_) (fun hb3 => ?_)
  · replace h := condT hb3 h
    refine cw_seq (cw_rg hnt rfl (x_bd B29 (sX3 ([tx [], tx [], bo false, nl, nl]) rfl) (k0 rfl) <| x_st L29 (eP rfl) rfl rfl rfl rfl (k0 rfl) <| x_as (eB rfl) (k0 rfl) <| lx_nil) (cw_to (to_ren (N := 0) (n' := 14) (L := [(2, .ptr 1 0 0), (3, bo false)]) (H := [(1, ⟨[[tx [], tx [], bo false, ar ([] : List Str), ar ([] : List Str)]], 5⟩)]) (id) [1] [] hn rfl rfl rfl fix0 (by decide) ⟨(Tr.ptr rfl), trv, trivial⟩ ⟨.inr ⟨rfl, _, rfl, TrO.cell (.cons trv (.cons trv (.cons trv (.cons Tr.nilArr (.cons Tr.nilArr .nil))))) rfl⟩, trivial⟩) (cw_ret (cw_rc (cw_rn ?_)))))
    cases h
    exact ⟨rfl, sub0⟩
  · replace h := condF hb3 h
    refine cw_skip (cw_seq ?_)
    obtain ⟨v4, hv4, h⟩ := bindE h
    refine cw_rg hnt rfl (x_mv (eA rfl) (k0 rfl) <| x_mv (eI rfl) (k0 rfl) <| x_ia E55 rfl (eX (ar v1) rfl) rfl hv4 (k0 rfl) <| x_ld L29 (eQ rfl) rfl (sX (.agg [tx v4.Name, tx v4.Sup, bo v4.Structural, ar v4.Must, ar v4.May]) rfl) (k0 rfl) <| x_al Z29 (k0 rfl) <| x_st L29 (eP rfl) rfl rfl rfl rfl (k0 rfl) <| lx_nil) (cw_seq ?_)
    obtain ⟨v5, hv5, h⟩ := bindE h
    obtain ⟨v6, hv6, h⟩ := bindE h
    refine cw_ra [15] [(2, [2]), (5, [5])] [(3, [2]), (4, [2]), (6, [5])] [7, 8, 9] hnt rfl Tryz.mixed (by kernel_rfl) rfl (by decide) (x_fp F29_3 (eP rfl) (k0 rfl) <| x_ld L27 (eP rfl) rfl (sX (ar v4.Must) rfl) (k0 rfl) <| x_nw (eF rfl) P26 (l_cloneS v4.Must v5 hv5) rfl (k0 rfl) <| x_fp F29_4 (eP rfl) (k0 rfl) <| x_ld L27 (eP rfl) rfl (sX (ar v4.May) rfl) (k0 rfl) <| x_nw (eF rfl) P26 (l_cloneS v4.May v6 hv6) rfl (k0 rfl) <| x_fp F29_3 (eP rfl) (k0 rfl) <| x_st L27 (eP rfl) rfl rfl rfl rfl (k0 rfl) <| x_fp F29_4 (eP rfl) (k0 rfl) <| x_st L27 (eP rfl) rfl rfl rfl rfl (k0 rfl) <| lx_nil) (cw_seq (cw_rg hnt rfl (x_ld L29 (eP rfl) rfl (sX (.agg [tx v4.Name, tx v4.Sup, bo v4.Structural, .own 19 0 v5.length, .own 22 0 v6.length]) rfl) (k0 rfl) <| x_st L29 (eP rfl) rfl rfl rfl rfl (k0 rfl) <| x_as (eB rfl) (k0 rfl) <| lx_nil) (cw_to (to_fz 19 (L := [(2, .ptr 1 0 0), (3, bo true)]) (H := [(1, ⟨[[tx v4.Name, tx v4.Sup, bo v4.Structural, ar v5, .own 22 0 v6.length]], 5⟩), (22, ob (v6 : List Str))]) (o := ob (v5 : List Str)) rfl ⟨Fz2.keep, Fz2.keep, trivial⟩ ⟨⟨rfl, .inr ⟨_, rfl, FzO.cell (fzc Fz2.keep (fzc Fz2.keep (fzc Fz2.keep (fzc fzO (fzc Fz2.keep fzn))))) (cellL rfl)⟩⟩, ⟨rfl, .inl rfl⟩, trivial⟩) (cw_to (to_fz 22 (L := [(2, .ptr 1 0 0), (3, bo true)]) (H := [(1, ⟨[[tx v4.Name, tx v4.Sup, bo v4.Structural, ar v5, ar v6]], 5⟩)]) (o := ob (v6 : List Str)) rfl ⟨Fz2.keep, Fz2.keep, trivial⟩ ⟨⟨rfl, .inr ⟨_, rfl, FzO.cell (fzc Fz2.keep (fzc Fz2.keep (fzc Fz2.keep (fzc Fz2.keep (fzc fzO fzn))))) (cellL rfl)⟩⟩, trivial⟩) (cw_ret (cw_rn ?_))))))
    cases h
    exact ⟨rfl, sub0⟩

theorem c_schema_above (p0 : T_Class) (r : List T_Class) (h : s_schema_above p0 = some r) : Pu Tryz.prog 57 [.agg (enc p0)] (ar r) := by
  refine ⟨(nfc nfe nfn), nfa, fs_start _ _ Tryz.func57 rfl Tryz.ntmps57 Tryz.results57 rfl fun X hnt hn => ?_⟩
  rw [s_schema_above] at h
  refine cw_seq (cw_rg hnt rfl (x_bx rfl (k0 rfl) <| x_as (eV rfl) (k0 rfl) <| lx_nil) (cw_seq (cw_rg hnt rfl (x_ld L29 (eP rfl) rfl (sX (.agg [tx p0.Name, tx p0.Sup, bo p0.Structural, ar p0.Must, ar p0.May]) rfl) (k0 rfl) <| x_bsO ([p0] : List T_Class) E55 rfl (sX2 [[tx p0.Name, tx p0.Sup, bo p0.Structural, ar p0.Must, ar p0.May]] rfl) rfl rfl (wkl (wkc (Wk.refl _) (wkc (Wk.refl _) (wkc (Wk.refl _) (wkc (Wk.refl _) (wkc (Wk.refl _) wkn0))))) wkn) (k0 rfl) <| x_as (eO rfl) (k0 rfl) <| lx_nil) (cw_seq ?_))))
  refine cw_cut (fun st => ∃ (v16 : List T_Class), schema_above_k1 v16 = some r ∧ st = ⟨ls [(3, .own 3 0 v16.length)], hl [(3, ob (v16 : List T_Class))], 8⟩) ?_ ?_
  · skip
    refine cw_block (cw_to (to_ren (N := 0) (n' := 5) (L := [(1, .ptr 0 0 0), (3, .own 3 0 (([p0] : List T_Class).length))]) (H := [(0, ⟨[[tx p0.Name, tx p0.Sup, bo p0.Structural, ar p0.Must, ar p0.May]], 5⟩), (3, ob (([p0] : List T_Class) : List T_Class))]) (id) [0, 3] [] hn rfl rfl rfl fix0 (by decide) ⟨(Tr.ptr rfl), (Tr.own rfl), trivial⟩ ⟨.inr ⟨rfl, _, rfl, TrO.cell (.cons trv (.cons trv (.cons trv (.cons tra (.cons tra .nil))))) rfl⟩, .inr ⟨rfl, _, rfl, tro⟩, trivial⟩) ?_)
    refine cw_loop (fun g st => ∃ (v20 : Str) (v21 : Str) (v22 : Bool) (v23 : List Str) (v24 : List Str) (v25 : List T_Class), schema_above_l1 g v20 v21 v22 v23 v24 v25 = some r ∧ st = ⟨ls [(1, .ptr 0 0 0), (3, .own 3 0 v25.length)], hl [(0, ⟨[[tx v20, tx v21, bo v22, ar v23, ar v24]], 5⟩), (3, ob (v25 : List T_Class))], 5⟩) FUEL ⟨p0.Name, p0.Sup, p0.Structural, p0.Must, p0.May, ([p0] : List T_Class), h, rfl⟩ ?_
    rintro g _ ⟨v20, v21, v22, v23, v24, v25, h, rfl⟩
    rcases g with _ | g1
    · rw [schema_above_l1] at h; cases h
    rw [schema_above_l1] at h
    refine cw_seq (cw_seq (cw_rg hnt rfl (x_fp F29_1 (eP rfl) (k0 rfl) <| x_ld L9 (eP rfl) rfl (sX (tx v21) rfl) (k0 rfl) <| x_ct (eT rfl) (eT rfl) rfl (k0 rfl) <| lx_nil) ?_))
    refine cw_cond rfl (fun hb29 => ?_) (fun hb29 => ?_)
    · replace h := condT hb29 h
      refine cw_skip (cw_block (cw_seq ?_))
      obtain ⟨v30, hv30, h⟩ := bindE h
      refine cw_rg hnt rfl (x_fp F29_1 (eP rfl) (k0 rfl) <| x_ld L9 (eP rfl) rfl (sX (tx v21) rfl) (k0 rfl) <| x_pu (eF rfl) P11 (c_schema_Find v21 v30 hv30) rfl (k0 rfl) <| x_mv (eW rfl) (k0 rfl) <| x_ex (eW rfl) (sX (.agg [tx v30.1.Name, tx v30.1.Sup, bo v30.1.Structural, ar v30.1.Must, ar v30.1.May]) rfl) (k0 rfl) <| x_ex (eW rfl) (sX (bo v30.2) rfl) (k0 rfl) <| x_st L29 (eP rfl) rfl rfl rfl rfl (k0 rfl) <| lx_nil) ?_
      obtain ⟨v31, hv31, h⟩ := bindE h
      refine cw_rg hnt rfl (x_mv (eO rfl) (k0 rfl) <| x_ld L29 (eP rfl) rfl (sX (.agg [tx v30.1.Name, tx v30.1.Sup, bo v30.1.Structural, ar v30.1.Must, ar v30.1.May]) rfl) (k0 rfl) <| x_bsA ([v30.1] : List T_Class) E55 rfl rfl (k0 rfl) <| x_apO (l1 := v25) E55 rfl rfl rfl (vlA' (l := ([v30.1] : List T_Class)) rfl rfl) hv31 (k0 rfl) <| x_as (eO rfl) (k0 rfl) <| lx_nil) (cw_blk (cw_nil ?_))
      exact ⟨g1, _, Nat.lt_succ_self _, (to_ren (N := 0) (n' := 5) (L := [(1, .ptr 0 0 0), (3, .own 3 0 v31.length)]) (H := [(0, ⟨[[tx v30.1.Name, tx v30.1.Sup, bo v30.1.Structural, ar v30.1.Must, ar v30.1.May]], 5⟩), (3, ob (v31 : List T_Class))]) (fun y => bif Nat.beq y 3 then 18 else y) [0, 3] [] hn rfl rfl rfl fix0 (by decide) ⟨(Tr.ptr rfl), (Tr.own rfl), trivial⟩ ⟨.inr ⟨rfl, _, rfl, TrO.cell (.cons trv (.cons trv (.cons trv (.cons tra (.cons tra .nil))))) rfl⟩, .inr ⟨rfl, _, rfl, tro⟩, trivial⟩), v30.1.Name, v30.1.Sup, v30.1.Structural, v30.1.Must, v30.1.May, v31, h, rfl⟩
    · replace h := condF hb29 h
      refine cw_exit (cw_xc (cw_xt (cw_xb (cw_nil ?_))))
      exact ⟨_, (to_ren (N := 0) (n' := 8) (L := [(3, .own 3 0 v25.length)]) (H := [(3, ob (v25 : List T_Class))]) (id) [3] [] hn rfl rfl rfl fix0 (by decide) ⟨(Tr.own rfl), trivial⟩ ⟨.inr ⟨rfl, _, rfl, tro⟩, trivial⟩), v25, h, rfl⟩
  · rintro _ ⟨v16, h, rfl⟩
    rw [schema_above_k1] at h
    refine cw_seq (cw_rg hnt rfl (x_mv (eO rfl) (k0 rfl) <| x_as (eO rfl) (k0 rfl) <| lx_nil) (cw_to (to_fz 3 (L := [(2, ar v16)]) (H := []) (o := ob (v16 : List T_Class)) rfl ⟨fzO, trivial⟩ trivial) (cw_ret (cw_rn ?_))))
    cases h
    exact ⟨rfl, sub0⟩

theorem c_schema_classed_1 (p0 : Str) (p1 : List Str) (r : Bool) (h : s_schema_classed_1 p0 p1 = some r) : FS Tryz.prog 58 [tx p0, .ptr 0 0 0] (hl [(0, ⟨[[ar p1]], 1⟩)]) 1 (bo r) [] := by
  refine fs_start _ _ Tryz.func58 rfl Tryz.ntmps58 Tryz.results58 rfl fun X hnt hn => ?_
  rw [s_schema_classed_1] at h
  refine cw_seq (cw_rg hnt rfl (x_as (eB rfl) (k0 rfl) <| lx_nil) (cw_seq ?_))
  obtain ⟨v1, hv1, h⟩ := bindE h
  refine cw_rg hnt rfl (x_ld L27 (eP rfl) rfl (sX (ar p1) rfl) (k0 rfl) <| x_mv (eT rfl) (k0 rfl) <| x_pu (eF rfl) P50 (c_slices_Contains_string p1 p0 v1 hv1) rfl (k0 rfl) <| x_not (eB rfl) (k0 rfl) <| x_as (eB rfl) (k0 rfl) <| lx_nil) (cw_ret (cw_rn ?_))
  cases h
  exact ⟨rfl, subH ⟨rfl, trivial⟩⟩
theorem q_schema_classed_1 (p1 : List Str) (is : List Nat) (n : Nat) (hnd : is.Nodup) (hlt : (is.all fun i => Nat.blt i n) = true) (hpl : plain Tryz.prog 58 = true) (hlen : is.length = 1 := by rfl) : Clo Tryz.prog 58 (ptrs is) (hl (is.zip [⟨[[ar p1]], 1⟩])) n (fun x : Str => [tx x]) (fun b : Bool => bo b) (fun x => s_schema_classed_1 x p1) :=
  clo_of (os := [⟨[[ar p1]], 1⟩]) hpl hlen (nfoc (nfo1 (nfc nfa nfn)) nfon) (fun x => (nfc nfv nfn)) (fun b => nfv) (fun x b h => c_schema_classed_1 x p1 b h) hnd hlt

theorem c_schema_classed_2 (p0 : Str) (p1 : List Str) (p2 : List Str) (r : Bool) (h : s_schema_classed_2 p0 p1 p2 = some r) : FS Tryz.prog 59 [tx p0, .ptr 0 0 0, .ptr 1 0 0] (hl [(0, ⟨[[ar p1]], 1⟩), (1, ⟨[[ar p2]], 1⟩)]) 2 (bo r) [] := by
  refine fs_start _ _ Tryz.func59 rfl Tryz.ntmps59 Tryz.results59 rfl fun X hnt hn => ?_
  rw [s_schema_classed_2] at h
  refine cw_seq (cw_rg hnt rfl (x_as (eB rfl) (k0 rfl) <| lx_nil) (cw_seq ?_))
  obtain ⟨v4, hq, h⟩ := bindE h
  refine cw_rl [(4, bo v4)] (D := [5, 6, 7, 8, 9, 10, 11, 12, 13, 14, 4]) hnt rfl rfl (by
    obtain ⟨v1, hv1, hq⟩ := bindE hq
    rcases Bool.eq_false_or_eq_true ((!v1)) with hb2 | hb2
    · replace hq := condT hb2 hq
      obtain ⟨v3, hv3, hq⟩ := bindE hq
      replace hq := Option.some.inj hq
      subst hq
      exact ⟨_, _, x_ld L27 (eP rfl) rfl (sX (ar p1) rfl) (k0 rfl) <| x_mv (eT rfl) (k0 rfl) <| x_pu (eF rfl) P50 (c_slices_Contains_string p1 p0 v1 hv1) rfl (k0 rfl) <| x_not (eB rfl) (k0 rfl) <| x_mv (eB rfl) (k0 rfl) <| x_ld L27 (eP rfl) rfl (sX (ar p2) rfl) (k1 rfl rfl rfl (congrArg bo hb2)) <| x_mv (eT rfl) (k1 rfl rfl rfl (congrArg bo hb2)) <| x_pu (eF rfl) P50 (c_slices_Contains_string p2 p0 v3 hv3) rfl (k1 rfl rfl rfl (congrArg bo hb2)) <| x_not (eB rfl) (k1 rfl rfl rfl (congrArg bo hb2)) <| x_pt rfl hb2 (eB rfl) (k0 rfl) <| x_as (eB rfl) (k0 rfl) <| lx_nil, ⟨rfl, trivial⟩⟩
    · replace hq := condF hb2 hq
      replace hq := Option.some.inj hq
      subst hq
      exact ⟨_, _, x_ld L27 (eP rfl) rfl (sX (ar p1) rfl) (k0 rfl) <| x_mv (eT rfl) (k0 rfl) <| x_pu (eF rfl) P50 (c_slices_Contains_string p1 p0 v1 hv1) rfl (k0 rfl) <| x_not (eB rfl) (k0 rfl) <| x_mv (eB rfl) (k0 rfl) <| lx_off rfl rfl (congrArg bo hb2) rfl <| lx_off rfl rfl (congrArg bo hb2) rfl <| lx_off rfl rfl (congrArg bo hb2) rfl <| lx_off rfl rfl (congrArg bo hb2) rfl <| x_pf rfl hb2 (eB rfl) (k0 rfl) <| x_as (eB rfl) (k0 rfl) <| lx_nil, ⟨rfl, trivial⟩⟩) ?_
  refine cw_ret (cw_rn ?_)
  cases h
  exact ⟨rfl, subH ⟨rfl, rfl, trivial⟩⟩
theorem q_schema_classed_2 (p1 : List Str) (p2 : List Str) (is : List Nat) (n : Nat) (hnd : is.Nodup) (hlt : (is.all fun i => Nat.blt i n) = true) (hpl : plain Tryz.prog 59 = true) (hlen : is.length = 2 := by rfl) : Clo Tryz.prog 59 (ptrs is) (hl (is.zip [⟨[[ar p1]], 1⟩, ⟨[[ar p2]], 1⟩])) n (fun x : Str => [tx x]) (fun b : Bool => bo b) (fun x => s_schema_classed_2 x p1 p2) :=
  clo_of (os := [⟨[[ar p1]], 1⟩, ⟨[[ar p2]], 1⟩]) hpl hlen (nfoc (nfo1 (nfc nfa nfn)) (nfoc (nfo1 (nfc nfa nfn)) nfon)) (fun x => (nfc nfv nfn)) (fun b => nfv) (fun x b h => c_schema_classed_2 x p1 p2 b h) hnd hlt

theorem c_schema_classed (p0 : List Str) (p1 : List Str) (r : Bool) (h : s_schema_classed p0 p1 = some r) : Pu Tryz.prog 35 [ar p0, ar p1] (bo r) := by
  refine ⟨(nfc nfa (nfc nfa nfn)), nfv, fs_start _ _ Tryz.func35 rfl Tryz.ntmps35 Tryz.results35 rfl fun X hnt hn => ?_⟩
  rw [s_schema_classed] at h
  refine cw_seq (cw_rg hnt rfl (x_bx rfl (k0 rfl) <| x_as (eB rfl) (k0 rfl) <| lx_nil) (cw_seq (cw_rg hnt rfl (x_as (eB rfl) (k0 rfl) <| lx_nil) (cw_seq (cw_rg hnt rfl (x_al Z27 (k0 rfl) <| x_al Z27 (k0 rfl) <| lx_nil) (cw_seq (cw_seq (cw_rg hnt rfl (x_mv (eA rfl) (k0 rfl) <| x_lnA E27 (eX (ar p1) rfl) (k0 rfl) <| x_mv (eI rfl) (k0 rfl) <| lx_nil) ?_))))))))
  refine cw_cut (fun st => ∃ (v288 : Bool) (v289 : List Str) (v290 : List Str), schema_classed_k1 p0 v288 v289 v290 = some r ∧ st = ⟨ls [(2, .ptr 0 0 0), (5, bo v288), (6, .ptr 3 0 0), (7, .ptr 4 0 0)], hl [(0, ⟨[[ar p0]], 1⟩), (3, ⟨[[.own 8 0 v289.length]], 1⟩), (4, ⟨[[.own 9 0 v290.length]], 1⟩), (8, ob (v289 : List Str)), (9, ob (v290 : List Str))], 11⟩) ?_ ?_
  · skip
    refine cw_block (cw_to (to_ren (N := 0) (n' := 10) (L := [(2, .ptr 0 0 0), (5, bo false), (6, .ptr 3 0 0), (7, .ptr 4 0 0), (16, ar p1), (17, i64 (p1.length : Int)), (18, i64 0)]) (H := [(0, ⟨[[ar p0]], 1⟩), (3, ⟨[[.own 8 0 0]], 1⟩), (4, ⟨[[.own 9 0 0]], 1⟩), (8, ob ([] : List Str)), (9, ob ([] : List Str))]) (id) [0, 3, 4] [8, 9] hn rfl rfl rfl fix0 (by decide) ⟨(Tr.ptr rfl), trv, (Tr.ptr rfl), (Tr.ptr rfl), tra, trv, trv, trivial⟩ ⟨.inr ⟨rfl, _, rfl, TrO.cell (.cons tra .nil) rfl⟩, .inr ⟨rfl, _, rfl, TrO.cell (.cons (Tr.nilOwn rfl) .nil) rfl⟩, .inr ⟨rfl, _, rfl, TrO.cell (.cons (Tr.nilOwn rfl) .nil) rfl⟩, .inl ⟨rfl, rfl⟩, .inl ⟨rfl, rfl⟩, trivial⟩) ?_)
    refine cw_loop (fun g st => ∃ (v389 : Bool) (v392 : Int) (v390 : List Str) (v391 : List Str), schema_classed_l1 p0 p1 g v389 v392 v390 v391 = some r ∧ st = ⟨ls [(2, .ptr 0 0 0), (5, bo v389), (6, .ptr 3 0 0), (7, .ptr 4 0 0), (16, ar p1), (17, i64 (p1.length : Int)), (18, i64 v392)], hl [(0, ⟨[[ar p0]], 1⟩), (3, ⟨[[.own 8 0 v390.length]], 1⟩), (4, ⟨[[.own 9 0 v391.length]], 1⟩), (8, ob (v390 : List Str)), (9, ob (v391 : List Str))], 10⟩) FUEL ⟨false, 0, [], [], h, rfl⟩ ?_
    rintro g _ ⟨v389, v392, v390, v391, h, rfl⟩
    rcases g with _ | g1
    · rw [schema_classed_l1] at h; cases h
    rw [schema_classed_l1] at h
    refine cw_seq (cw_rg hnt rfl (x_ci (eX (.val (.int .i64 v392)) rfl) (eX (.val (.int .i64 (p1.length : Int))) rfl) rfl (k0 rfl) <| lx_nil) (cw_seq ?_))
    refine cw_cond rfl (fun hb488 => ?_) (fun hb488 => ?_)
    · replace h := condT hb488 h
      refine cw_skip (cw_seq ?_)
      refine cw_cut (fun st => ∃ (v534 : Bool) (v535 : List Str) (v536 : List Str), schema_classed_k2 v392 (schema_classed_l1 p0 p1 g1) v534 v535 v536 = some r ∧ st = ⟨ls [(2, .ptr 0 0 0), (5, bo v534), (6, .ptr 3 0 0), (7, .ptr 4 0 0), (16, ar p1), (17, i64 (p1.length : Int)), (18, i64 v392)], hl [(0, ⟨[[ar p0]], 1⟩), (3, ⟨[[.own 8 0 v535.length]], 1⟩), (4, ⟨[[.own 9 0 v536.length]], 1⟩), (8, ob (v535 : List Str)), (9, ob (v536 : List Str))], 36⟩) ?_ ?_
      · skip
        refine cw_block (cw_seq ?_)
        obtain ⟨v538, hv538, h⟩ := bindE h
        refine cw_rg hnt rfl (x_ia E27 rfl (eX (ar p1) rfl) rfl hv538 (k0 rfl) <| x_ld L9 (eQ rfl) rfl (sX (tx v538) rfl) (k0 rfl) <| x_as (eT rfl) (k0 rfl) <| lx_nil) (cw_seq ?_)
        obtain ⟨v539, hv539, h⟩ := bindE h
        obtain ⟨v540, hv540, h⟩ := bindE h
        refine cw_rg hnt rfl (x_mv (eT rfl) (k0 rfl) <| x_pu (eF rfl) P48 (c_dn_Fold v538 v539 hv539) rfl (k0 rfl) <| x_pu (eF rfl) P11 (c_schema_Find v539 v540 hv540) rfl (k0 rfl) <| x_mv (eW rfl) (k0 rfl) <| x_ex (eW rfl) (sX (.agg [tx v540.1.Name, tx v540.1.Sup, bo v540.1.Structural, ar v540.1.Must, ar v540.1.May]) rfl) (k0 rfl) <| x_ex (eW rfl) (sX (bo v540.2) rfl) (k0 rfl) <| x_al Z29 (k0 rfl) <| x_st L29 (eP rfl) rfl rfl rfl rfl (k0 rfl) <| x_as (eB rfl) (k0 rfl) <| lx_nil) (cw_seq (cw_seq (cw_rg hnt rfl (x_mv (eB rfl) (k0 rfl) <| x_not (eB rfl) (k0 rfl) <| lx_nil) ?_)))
        refine cw_cond rfl (fun hb541 => ?_) (fun hb541 => ?_)
        · replace h := condT hb541 h
          refine cw_seq (cw_rg hnt rfl (x_as (eB rfl) (k0 rfl) <| lx_nil) (cw_ret (cw_rc (cw_rb (cw_rt (cw_rc (cw_rt (cw_rb (cw_rt (cw_rc (cw_rn ?_)))))))))))
          cases h
          exact ⟨rfl, sub0⟩
        · replace h := condF hb541 h
          refine cw_skip (cw_seq ?_)
          obtain ⟨v543, hq, h⟩ := bindE h
          refine cw_rl [(5, bo v543)] (D := [30, 31, 32, 33, 34, 5]) hnt rfl rfl (by
            rcases Bool.eq_false_or_eq_true (v389) with hb542 | hb542
            · replace hq := condT hb542 hq
              replace hq := Option.some.inj hq
              subst hq
              exact ⟨_, _, x_mv (eB rfl) (k0 rfl) <| x_mv (eB rfl) (k0 rfl) <| lx_off rfl rfl (congrArg bo hb542) rfl <| lx_off rfl rfl (congrArg bo hb542) rfl <| x_pt rfl hb542 (eB rfl) (k0 rfl) <| x_as (eB rfl) (k0 rfl) <| lx_nil, ⟨rfl, trivial⟩⟩
            · replace hq := condF hb542 hq
              replace hq := Option.some.inj hq
              subst hq
              exact ⟨_, _, x_mv (eB rfl) (k0 rfl) <| x_mv (eB rfl) (k0 rfl) <| x_fp F29_2 (eP rfl) (k1 rfl rfl rfl (congrArg bo hb542)) <| x_ld L4 (eP rfl) rfl (sX (bo v540.1.Structural) rfl) (k1 rfl rfl rfl (congrArg bo hb542)) <| x_pf rfl hb542 (eB rfl) (k0 rfl) <| x_as (eB rfl) (k0 rfl) <| lx_nil, ⟨rfl, trivial⟩⟩) ?_
          refine cw_seq ?_
          obtain ⟨v544, hv544, h⟩ := bindE h
          refine cw_rg hnt rfl (x_ld L29 (eP rfl) rfl (sX (.agg [tx v540.1.Name, tx v540.1.Sup, bo v540.1.Structural, ar v540.1.Must, ar v540.1.May]) rfl) (k0 rfl) <| x_pu (eF rfl) P57 (c_schema_above v540.1 v544 hv544) rfl (k0 rfl) <| x_lnA E55 (eX (ar v544) rfl) (k0 rfl) <| x_mv (eI rfl) (k0 rfl) <| lx_nil) ?_
          refine cw_cut (fun st => ∃ (v563 : List Str) (v564 : List Str), schema_classed_k3 v392 (schema_classed_l1 p0 p1 g1) v543 v563 v564 = some r ∧ st = ⟨ls [(2, .ptr 0 0 0), (5, bo v543), (6, .ptr 3 0 0), (7, .ptr 4 0 0), (16, ar p1), (17, i64 (p1.length : Int)), (18, i64 v392)], hl [(0, ⟨[[ar p0]], 1⟩), (3, ⟨[[.own 8 0 v563.length]], 1⟩), (4, ⟨[[.own 9 0 v564.length]], 1⟩), (8, ob (v563 : List Str)), (9, ob (v564 : List Str))], 36⟩) ?_ ?_
          · skip
            refine cw_block (cw_to (to_ren (N := 0) (n' := 35) (L := [(2, .ptr 0 0 0), (5, bo v543), (6, .ptr 3 0 0), (7, .ptr 4 0 0), (16, ar p1), (17, i64 (p1.length : Int)), (18, i64 v392), (36, ar v544), (37, i64 (v544.length : Int)), (38, i64 0)]) (H := [(0, ⟨[[ar p0]], 1⟩), (3, ⟨[[.own 8 0 v390.length]], 1⟩), (4, ⟨[[.own 9 0 v391.length]], 1⟩), (8, ob (v390 : List Str)), (9, ob (v391 : List Str))]) (id) [0, 3, 4, 8, 9] [] hn rfl rfl rfl fix0 (by decide) ⟨(Tr.ptr rfl), trv, (Tr.ptr rfl), (Tr.ptr rfl), tra, trv, trv, tra, trv, trv, trivial⟩ ⟨.inr ⟨rfl, _, rfl, TrO.cell (.cons tra .nil) rfl⟩, .inr ⟨rfl, _, rfl, TrO.cell (.cons (Tr.own rfl) .nil) rfl⟩, .inr ⟨rfl, _, rfl, TrO.cell (.cons (Tr.own rfl) .nil) rfl⟩, .inr ⟨rfl, _, rfl, tro⟩, .inr ⟨rfl, _, rfl, tro⟩, trivial⟩) ?_)
            refine cw_loop (fun g st => ∃ (v572 : Int) (v570 : List Str) (v571 : List Str), schema_classed_l2 v392 (schema_classed_l1 p0 p1 g1) v543 v544 g v572 v570 v571 = some r ∧ st = ⟨ls [(2, .ptr 0 0 0), (5, bo v543), (6, .ptr 3 0 0), (7, .ptr 4 0 0), (16, ar p1), (17, i64 (p1.length : Int)), (18, i64 v392), (36, ar v544), (37, i64 (v544.length : Int)), (38, i64 v572)], hl [(0, ⟨[[ar p0]], 1⟩), (3, ⟨[[.own 8 0 v570.length]], 1⟩), (4, ⟨[[.own 9 0 v571.length]], 1⟩), (8, ob (v570 : List Str)), (9, ob (v571 : List Str))], 35⟩) FUEL ⟨0, v390, v391, h, rfl⟩ ?_
            rintro g _ ⟨v572, v570, v571, h, rfl⟩
            rcases g with _ | g2
            · rw [schema_classed_l2] at h; cases h
            rw [schema_classed_l2] at h
            refine cw_seq (cw_rg hnt rfl (x_ci (eX (.val (.int .i64 v572)) rfl) (eX (.val (.int .i64 (v544.length : Int))) rfl) rfl (k0 rfl) <| lx_nil) (cw_seq ?_))
            refine cw_cond rfl (fun hb578 => ?_) (fun hb578 => ?_)
            · replace h := condT hb578 h
              refine cw_skip (cw_seq (cw_block (cw_seq ?_)))
              obtain ⟨v579, hv579, h⟩ := bindE h
              refine cw_rg hnt rfl (x_ia E55 rfl (eX (ar v544) rfl) rfl hv579 (k0 rfl) <| x_ld L29 (eQ rfl) rfl (sX (.agg [tx v579.Name, tx v579.Sup, bo v579.Structural, ar v579.Must, ar v579.May]) rfl) (k0 rfl) <| x_al Z29 (k0 rfl) <| x_st L29 (eP rfl) rfl rfl rfl rfl (k0 rfl) <| lx_nil) ?_
              obtain ⟨v580, hv580, h⟩ := bindE h
              obtain ⟨v581, hv581, h⟩ := bindE h
              refine cw_ra [8, 9, 3, 4] [(3, [3, 10])] [(4, [3, 10]), (5, [3, 10]), (6, [3, 10])] [7, 8, 9] hnt rfl Tryz.mixed (by kernel_rfl) rfl (by decide) (x_ld L27 (eP rfl) rfl (sX (.own 8 0 v570.length) rfl) (k0 rfl) <| x_fp F29_3 (eP rfl) (k0 rfl) <| x_ld L27 (eP rfl) rfl (sX (ar v579.Must) rfl) (k0 rfl) <| x_apO (l1 := v570) E27 rfl rfl rfl (vlA' (l := (v579.Must : List Str)) rfl rfl) hv580 (k0 rfl) <| x_ld L27 (eP rfl) rfl (sX (.own 9 0 v571.length) rfl) (k0 rfl) <| x_fp F29_4 (eP rfl) (k0 rfl) <| x_ld L27 (eP rfl) rfl (sX (ar v579.May) rfl) (k0 rfl) <| x_apO (l1 := v571) E27 rfl rfl rfl (vlA' (l := (v579.May : List Str)) rfl rfl) hv581 (k0 rfl) <| x_st L27 (eP rfl) rfl rfl rfl rfl (k0 rfl) <| x_st L27 (eP rfl) rfl rfl rfl rfl (k0 rfl) <| lx_nil) (cw_blk ?_)
              obtain ⟨v582, hv582, h⟩ := bindE h
              refine cw_rg hnt rfl (x_ai (eI rfl) (eI rfl) hv582 (k0 rfl) <| x_mv (eI rfl) (k0 rfl) <| lx_nil) (cw_nil ?_)
              exact ⟨g2, _, Nat.lt_succ_self _, (to_ren (N := 0) (n' := 35) (L := [(2, .ptr 0 0 0), (5, bo v543), (6, .ptr 3 0 0), (7, .ptr 4 0 0), (16, ar p1), (17, i64 (p1.length : Int)), (18, i64 v392), (36, ar v544), (37, i64 (v544.length : Int)), (38, i64 v582)]) (H := [(0, ⟨[[ar p0]], 1⟩), (3, ⟨[[.own 8 0 v580.length]], 1⟩), (4, ⟨[[.own 9 0 v581.length]], 1⟩), (8, ob (v580 : List Str)), (9, ob (v581 : List Str))]) (fun y => bif Nat.beq y 8 then 43 else bif Nat.beq y 9 then 47 else y) [0, 3, 4, 8, 9] [] hn rfl rfl rfl fix0 (by decide) ⟨(Tr.ptr rfl), trv, (Tr.ptr rfl), (Tr.ptr rfl), tra, trv, trv, tra, trv, trv, trivial⟩ ⟨.inr ⟨rfl, _, rfl, TrO.cell (.cons tra .nil) rfl⟩, .inr ⟨rfl, _, rfl, TrO.cell (.cons (Tr.own rfl) .nil) rfl⟩, .inr ⟨rfl, _, rfl, TrO.cell (.cons (Tr.own rfl) .nil) rfl⟩, .inr ⟨rfl, _, rfl, tro⟩, .inr ⟨rfl, _, rfl, tro⟩, trivial⟩), v582, v580, v581, h, rfl⟩
            · replace h := condF hb578 h
              refine cw_exit (cw_xc (cw_xt (cw_xb (cw_nil ?_))))
              exact ⟨_, (to_ren (N := 0) (n' := 36) (L := [(2, .ptr 0 0 0), (5, bo v543), (6, .ptr 3 0 0), (7, .ptr 4 0 0), (16, ar p1), (17, i64 (p1.length : Int)), (18, i64 v392)]) (H := [(0, ⟨[[ar p0]], 1⟩), (3, ⟨[[.own 8 0 v570.length]], 1⟩), (4, ⟨[[.own 9 0 v571.length]], 1⟩), (8, ob (v570 : List Str)), (9, ob (v571 : List Str))]) (id) [0, 3, 4, 8, 9] [] hn rfl rfl rfl fix0 (by decide) ⟨(Tr.ptr rfl), trv, (Tr.ptr rfl), (Tr.ptr rfl), tra, trv, trv, trivial⟩ ⟨.inr ⟨rfl, _, rfl, TrO.cell (.cons tra .nil) rfl⟩, .inr ⟨rfl, _, rfl, TrO.cell (.cons (Tr.own rfl) .nil) rfl⟩, .inr ⟨rfl, _, rfl, TrO.cell (.cons (Tr.own rfl) .nil) rfl⟩, .inr ⟨rfl, _, rfl, tro⟩, .inr ⟨rfl, _, rfl, tro⟩, trivial⟩), v570, v571, h, rfl⟩
          · rintro _ ⟨v563, v564, h, rfl⟩
            rw [schema_classed_k3] at h
            refine cw_blk (cw_nil ?_)
            exact ⟨_, (to_ren (N := 0) (n' := 36) (L := [(2, .ptr 0 0 0), (5, bo v543), (6, .ptr 3 0 0), (7, .ptr 4 0 0), (16, ar p1), (17, i64 (p1.length : Int)), (18, i64 v392)]) (H := [(0, ⟨[[ar p0]], 1⟩), (3, ⟨[[.own 8 0 v563.length]], 1⟩), (4, ⟨[[.own 9 0 v564.length]], 1⟩), (8, ob (v563 : List Str)), (9, ob (v564 : List Str))]) (id) [0, 3, 4, 8, 9] [] hn rfl rfl rfl fix0 (by decide) ⟨(Tr.ptr rfl), trv, (Tr.ptr rfl), (Tr.ptr rfl), tra, trv, trv, trivial⟩ ⟨.inr ⟨rfl, _, rfl, TrO.cell (.cons tra .nil) rfl⟩, .inr ⟨rfl, _, rfl, TrO.cell (.cons (Tr.own rfl) .nil) rfl⟩, .inr ⟨rfl, _, rfl, TrO.cell (.cons (Tr.own rfl) .nil) rfl⟩, .inr ⟨rfl, _, rfl, tro⟩, .inr ⟨rfl, _, rfl, tro⟩, trivial⟩), v543, v563, v564, h, rfl⟩
      · rintro _ ⟨v534, v535, v536, h, rfl⟩
        rw [schema_classed_k2] at h
        obtain ⟨v537, hv537, h⟩ := bindE h
        refine cw_rg hnt rfl (x_ai (eI rfl) (eI rfl) hv537 (k0 rfl) <| x_mv (eI rfl) (k0 rfl) <| lx_nil) (cw_nil ?_)
        exact ⟨g1, _, Nat.lt_succ_self _, (to_ren (N := 0) (n' := 10) (L := [(2, .ptr 0 0 0), (5, bo v534), (6, .ptr 3 0 0), (7, .ptr 4 0 0), (16, ar p1), (17, i64 (p1.length : Int)), (18, i64 v537)]) (H := [(0, ⟨[[ar p0]], 1⟩), (3, ⟨[[.own 8 0 v535.length]], 1⟩), (4, ⟨[[.own 9 0 v536.length]], 1⟩), (8, ob (v535 : List Str)), (9, ob (v536 : List Str))]) (id) [0, 3, 4, 8, 9] [] hn rfl rfl rfl fix0 (by decide) ⟨(Tr.ptr rfl), trv, (Tr.ptr rfl), (Tr.ptr rfl), tra, trv, trv, trivial⟩ ⟨.inr ⟨rfl, _, rfl, TrO.cell (.cons tra .nil) rfl⟩, .inr ⟨rfl, _, rfl, TrO.cell (.cons (Tr.own rfl) .nil) rfl⟩, .inr ⟨rfl, _, rfl, TrO.cell (.cons (Tr.own rfl) .nil) rfl⟩, .inr ⟨rfl, _, rfl, tro⟩, .inr ⟨rfl, _, rfl, tro⟩, trivial⟩), v534, v537, v535, v536, h, rfl⟩
    · replace h := condF hb488 h
      refine cw_exit (cw_xc (cw_xt (cw_xb (cw_nil ?_))))
      exact ⟨_, (to_ren (N := 0) (n' := 11) (L := [(2, .ptr 0 0 0), (5, bo v389), (6, .ptr 3 0 0), (7, .ptr 4 0 0)]) (H := [(0, ⟨[[ar p0]], 1⟩), (3, ⟨[[.own 8 0 v390.length]], 1⟩), (4, ⟨[[.own 9 0 v391.length]], 1⟩), (8, ob (v390 : List Str)), (9, ob (v391 : List Str))]) (id) [0, 3, 4, 8, 9] [] hn rfl rfl rfl fix0 (by decide) ⟨(Tr.ptr rfl), trv, (Tr.ptr rfl), (Tr.ptr rfl), trivial⟩ ⟨.inr ⟨rfl, _, rfl, TrO.cell (.cons tra .nil) rfl⟩, .inr ⟨rfl, _, rfl, TrO.cell (.cons (Tr.own rfl) .nil) rfl⟩, .inr ⟨rfl, _, rfl, TrO.cell (.cons (Tr.own rfl) .nil) rfl⟩, .inr ⟨rfl, _, rfl, tro⟩, .inr ⟨rfl, _, rfl, tro⟩, trivial⟩), v389, v390, v391, h, rfl⟩
  · rintro _ ⟨v288, v289, v290, h, rfl⟩
    rw [schema_classed_k1] at h
    refine cw_seq (cw_to (to_fz 8 (L := [(2, .ptr 0 0 0), (5, bo v288), (6, .ptr 3 0 0), (7, .ptr 4 0 0)]) (H := [(0, ⟨[[ar p0]], 1⟩), (3, ⟨[[ar v289]], 1⟩), (4, ⟨[[.own 9 0 v290.length]], 1⟩), (9, ob (v290 : List Str))]) (o := ob (v289 : List Str)) rfl ⟨Fz2.keep, Fz2.keep, Fz2.keep, Fz2.keep, trivial⟩ ⟨⟨rfl, .inl rfl⟩, ⟨rfl, .inr ⟨_, rfl, FzO.cell (fzc fzO fzn) (cellL rfl)⟩⟩, ⟨rfl, .inl rfl⟩, ⟨rfl, .inl rfl⟩, trivial⟩) ?_)
    obtain ⟨v291, hv291, h⟩ := bindE h
    refine cw_rg hnt rfl (x_ld L27 (eP rfl) rfl (sX (ar v289) rfl) (k0 rfl) <| x_mf (eXL [.ptr 0 0 0] rfl) (k0 rfl) <| x_fx (eF rfl) P32 (c_slices_ContainsFunc_string v289 (fun x => s_schema_classed_1 x p0) (q_schema_classed_1 p0 [0] 13 (by decide) rfl P58) v291 hv291) (subH ⟨rfl, trivial⟩) rfl (k0 rfl) <| x_as (eB rfl) (k0 rfl) <| lx_nil) (cw_seq (cw_to (to_fz 9 (L := [(2, .ptr 0 0 0), (5, bo v288), (6, .ptr 3 0 0), (7, .ptr 4 0 0), (14, bo v291)]) (H := [(0, ⟨[[ar p0]], 1⟩), (3, ⟨[[ar v289]], 1⟩), (4, ⟨[[ar v290]], 1⟩)]) (o := ob (v290 : List Str)) rfl ⟨Fz2.keep, Fz2.keep, Fz2.keep, Fz2.keep, Fz2.keep, trivial⟩ ⟨⟨rfl, .inl rfl⟩, ⟨rfl, .inl rfl⟩, ⟨rfl, .inr ⟨_, rfl, FzO.cell (fzc fzO fzn) (cellL rfl)⟩⟩, trivial⟩) ?_))
    obtain ⟨v292, hv292, h⟩ := bindE h
    refine cw_rg hnt rfl (x_ld L27 (eP rfl) rfl (sX (ar p0) rfl) (k0 rfl) <| x_mf (eXL [.ptr 3 0 0, .ptr 4 0 0] rfl) (k0 rfl) <| x_fx (eF rfl) P32 (c_slices_ContainsFunc_string p0 (fun x => s_schema_classed_2 x v289 v290) (q_schema_classed_2 v289 v290 [3, 4] 17 (by decide) rfl P59) v292 hv292) (subH ⟨rfl, rfl, trivial⟩) rfl (k0 rfl) <| x_as (eB rfl) (k0 rfl) <| lx_nil) (cw_seq ?_)
    obtain ⟨v295, hq, h⟩ := bindE h
    refine cw_rl [(4, bo v295)] (D := [58, 59, 60, 61, 62, 63, 64, 65, 66, 4]) hnt rfl rfl (by
      rcases Bool.eq_false_or_eq_true (v288) with hb293 | hb293
      · replace hq := condT hb293 hq
        rcases Bool.eq_false_or_eq_true ((!v291)) with hb294 | hb294
        · replace hq := condT hb294 hq
          replace hq := Option.some.inj hq
          subst hq
          exact ⟨_, _, x_mv (eB rfl) (k0 rfl) <| x_mv (eB rfl) (k0 rfl) <| x_mv (eB rfl) (k1 rfl rfl rfl (congrArg bo hb293)) <| x_not (eB rfl) (k1 rfl rfl rfl (congrArg bo hb293)) <| x_pt rfl hb293 (eB rfl) (k0 rfl) <| x_mv (eB rfl) (k0 rfl) <| x_mv (eB rfl) (k1 rfl rfl rfl (congrArg bo hb294)) <| x_not (eB rfl) (k1 rfl rfl rfl (congrArg bo hb294)) <| x_pt rfl hb294 (eB rfl) (k0 rfl) <| x_as (eB rfl) (k0 rfl) <| lx_nil, ⟨rfl, trivial⟩⟩
        · replace hq := condF hb294 hq
          replace hq := Option.some.inj hq
          subst hq
          exact ⟨_, _, x_mv (eB rfl) (k0 rfl) <| x_mv (eB rfl) (k0 rfl) <| x_mv (eB rfl) (k1 rfl rfl rfl (congrArg bo hb293)) <| x_not (eB rfl) (k1 rfl rfl rfl (congrArg bo hb293)) <| x_pt rfl hb293 (eB rfl) (k0 rfl) <| x_mv (eB rfl) (k0 rfl) <| lx_off rfl rfl (congrArg bo hb294) rfl <| lx_off rfl rfl (congrArg bo hb294) rfl <| x_pf rfl hb294 (eB rfl) (k0 rfl) <| x_as (eB rfl) (k0 rfl) <| lx_nil, ⟨rfl, trivial⟩⟩
      · replace hq := condF hb293 hq
        replace hq := Option.some.inj hq
        subst hq
        exact ⟨_, _, x_mv (eB rfl) (k0 rfl) <| x_mv (eB rfl) (k0 rfl) <| lx_off rfl rfl (congrArg bo hb293) rfl <| lx_off rfl rfl (congrArg bo hb293) rfl <| x_pf rfl hb293 (eB rfl) (k0 rfl) <| x_mv (eB rfl) (k0 rfl) <| lx_off rfl rfl rfl rfl <| lx_off rfl rfl rfl rfl <| x_pf rfl rfl (eB rfl) (k0 rfl) <| x_as (eB rfl) (k0 rfl) <| lx_nil, ⟨rfl, trivial⟩⟩) ?_
    refine cw_ret (cw_rn ?_)
    cases h
    exact ⟨rfl, sub0⟩

theorem c_schema_Check (p0 : T_Entry) (r : Int) (h : s_schema_Check p0 = some r) : Pu Tryz.prog 13 [.agg (enc p0)] (i64 r) := by
  refine ⟨(nfc nfe nfn), nfv, fs_start _ _ Tryz.func13 rfl Tryz.ntmps13 Tryz.results13 rfl fun X hnt hn => ?_⟩
  rw [s_schema_Check] at h
  refine cw_seq (cw_rg hnt rfl (x_bx rfl (k0 rfl) <| x_as (eI rfl) (k0 rfl) <| lx_nil) (cw_seq ?_))
  obtain ⟨v1, hv1, h⟩ := bindE h
  refine cw_rg hnt rfl (x_fp F24_0 (eP rfl) (k0 rfl) <| x_ld L9 (eP rfl) rfl (sX (tx p0.Dn) rfl) (k0 rfl) <| x_nw (eF rfl) P28 (c_dn_Parse p0.Dn v1 hv1) rfl (k0 rfl) <| x_mv (eW rfl) (k0 rfl) <| x_ex (eW rfl) (sX (.own 4 0 v1.1.length) rfl) (k0 rfl) <| x_ex (eW rfl) (sX (bo v1.2) rfl) (k0 rfl) <| x_as (eO rfl) (k0 rfl) <| x_as (eB rfl) (k0 rfl) <| lx_nil) (cw_seq (cw_seq ?_))
  obtain ⟨v3, hq, h⟩ := bindE h
  refine cw_rl [(28, bo v3)] (D := [22, 23, 24, 25, 26, 27, 28]) hnt rfl rfl (by
    rcases Bool.eq_false_or_eq_true ((!v1.2)) with hb2 | hb2
    · replace hq := condT hb2 hq
      replace hq := Option.some.inj hq
      subst hq
      exact ⟨_, _, x_mv (eB rfl) (k0 rfl) <| x_not (eB rfl) (k0 rfl) <| x_mv (eB rfl) (k0 rfl) <| lx_off rfl rfl (congrArg bo hb2) rfl <| lx_off rfl rfl (congrArg bo hb2) rfl <| lx_off rfl rfl (congrArg bo hb2) rfl <| x_pt rfl hb2 (eB rfl) (k0 rfl) <| lx_nil, ⟨rfl, trivial⟩⟩
    · replace hq := condF hb2 hq
      replace hq := Option.some.inj hq
      subst hq
      exact ⟨_, _, x_mv (eB rfl) (k0 rfl) <| x_not (eB rfl) (k0 rfl) <| x_mv (eB rfl) (k0 rfl) <| x_mv (eO rfl) (k1 rfl rfl rfl (congrArg bo hb2)) <| x_ln (n := v1.1.length) E50 rfl (k1 rfl rfl rfl (congrArg bo hb2)) <| x_ci (eX (.val (.int .i64 (v1.1.length : Int))) rfl) (eX (.val (.int .i64 0)) rfl) rfl (k1 rfl rfl rfl (congrArg bo hb2)) <| x_pf rfl hb2 (eB rfl) (k0 rfl) <| lx_nil, ⟨rfl, trivial⟩⟩) ?_
  refine cw_cond rfl (fun hb4 => ?_) (fun hb4 => ?_)
  · replace h := condT hb4 h
    refine cw_seq (cw_rg hnt rfl (x_as (eI rfl) (k0 rfl) <| lx_nil) (cw_ret (cw_rc (cw_rn ?_))))
    cases h
    exact ⟨rfl, sub0⟩
  · replace h := condF hb4 h
    refine cw_skip (cw_seq (cw_seq ?_))
    obtain ⟨v5, hv5, h⟩ := bindE h
    refine cw_rg hnt rfl (x_fp F24_0 (eP rfl) (k0 rfl) <| x_ld L9 (eP rfl) rfl (sX (tx p0.Dn) rfl) (k0 rfl) <| x_pu (eF rfl) P29 (c_dn_Key p0.Dn v5 hv5) rfl (k0 rfl) <| x_mv (eW rfl) (k0 rfl) <| x_ex (eW rfl) (sX (tx v5.1) rfl) (k0 rfl) <| x_ex (eW rfl) (sX (bo v5.2) rfl) (k0 rfl) <| x_as (eT rfl) (k0 rfl) <| x_as (eB rfl) (k0 rfl) <| lx_nil) (cw_seq (cw_rg hnt rfl (x_mv (eB rfl) (k0 rfl) <| x_not (eB rfl) (k0 rfl) <| lx_nil) ?_))
    refine cw_cond rfl (fun hb6 => ?_) (fun hb6 => ?_)
    · replace h := condT hb6 h
      refine cw_seq (cw_rg hnt rfl (x_as (eI rfl) (k0 rfl) <| lx_nil) (cw_ret (cw_rc (cw_rn ?_))))
      cases h
      exact ⟨rfl, sub0⟩
    · replace h := condF hb6 h
      refine cw_skip (cw_seq (cw_seq (cw_rg hnt rfl (x_fp F24_1 (eP rfl) (k0 rfl) <| x_ld L22 (eP rfl) rfl (sX (ar p0.Attrs) rfl) (k0 rfl) <| x_lnA E22 (eX (ar p0.Attrs) rfl) (k0 rfl) <| x_ci (eX (.val (.int .i64 (p0.Attrs.length : Int))) rfl) (eX (.val (.int .i64 20)) rfl) rfl (k0 rfl) <| lx_nil) ?_)))
      refine cw_cond rfl (fun hb7 => ?_) (fun hb7 => ?_)
      · replace h := condT hb7 h
        refine cw_seq (cw_rg hnt rfl (x_as (eI rfl) (k0 rfl) <| lx_nil) (cw_ret (cw_rc (cw_rn ?_))))
        cases h
        exact ⟨rfl, sub0⟩
      · replace h := condF hb7 h
        refine cw_skip (cw_seq (cw_rg hnt rfl (x_as (eV rfl) (k0 rfl) <| x_as (eV rfl) (k0 rfl) <| lx_nil) (cw_seq (cw_rg hnt rfl (x_as (eB rfl) (k0 rfl) <| lx_nil) (cw_seq ?_)))))
        obtain ⟨v8, hv8, h⟩ := bindE h
        refine cw_rg hnt rfl (x_mv (eO rfl) (k0 rfl) <| x_io E50 rfl (eO rfl) rfl rfl (lgB hv8) (k0 rfl) <| x_ldE L49 (eP rfl) rfl (lgO hv8) (sX (.agg [tx v8.Typ, tx v8.Val]) rfl) (k0 rfl) <| x_al Z49 (k0 rfl) <| x_st L49 (eP rfl) rfl rfl rfl rfl (k0 rfl) <| lx_nil) (cw_seq (cw_seq (cw_rg hnt rfl (x_fp F24_1 (eP rfl) (k0 rfl) <| x_ld L22 (eP rfl) rfl (sX (ar p0.Attrs) rfl) (k0 rfl) <| x_lnA E22 (eX (ar p0.Attrs) rfl) (k0 rfl) <| x_mv (eI rfl) (k0 rfl) <| lx_nil) ?_)))
        refine cw_cut (fun st => ∃ (v65 : List Str) (v66 : Bool) (v64 : List Str), schema_Check_k1 v65 v66 v64 = some r ∧ st = ⟨ls [(7, .own 43 0 v64.length), (8, ar v65), (9, bo v66)], hl [(43, ob (v64 : List Str))], 45⟩) ?_ ?_
        · skip
          refine cw_block (cw_to (to_ren (N := 0) (n' := 44) (L := [(7, .own 43 0 0), (8, ar ([] : List Str)), (9, bo false), (10, .ptr 37 0 0), (45, ar p0.Attrs), (46, i64 (p0.Attrs.length : Int)), (47, i64 0)]) (H := [(37, ⟨[[tx v8.Typ, tx v8.Val]], 2⟩), (43, ob ([] : List Str))]) (id) [37] [43] hn rfl rfl rfl fix0 (by decide) ⟨(Tr.nilOwn rfl), Tr.nilArr, trv, (Tr.ptr rfl), tra, trv, trv, trivial⟩ ⟨.inr ⟨rfl, _, rfl, TrO.cell (.cons trv (.cons trv .nil)) rfl⟩, .inl ⟨rfl, rfl⟩, trivial⟩) ?_)
          refine cw_loop (fun g st => ∃ (v88 : List Str) (v89 : Bool) (v90 : Int) (v87 : List Str), schema_Check_l1 p0 v8 g v88 v89 v90 v87 = some r ∧ st = ⟨ls [(7, .own 43 0 v87.length), (8, ar v88), (9, bo v89), (10, .ptr 37 0 0), (45, ar p0.Attrs), (46, i64 (p0.Attrs.length : Int)), (47, i64 v90)], hl [(37, ⟨[[tx v8.Typ, tx v8.Val]], 2⟩), (43, ob (v87 : List Str))], 44⟩) FUEL ⟨[], false, 0, [], h, rfl⟩ ?_
          rintro g _ ⟨v88, v89, v90, v87, h, rfl⟩
          rcases g with _ | g1
          · rw [schema_Check_l1] at h; cases h
          rw [schema_Check_l1] at h
          refine cw_seq (cw_rg hnt rfl (x_ci (eX (.val (.int .i64 v90)) rfl) (eX (.val (.int .i64 (p0.Attrs.length : Int))) rfl) rfl (k0 rfl) <| lx_nil) (cw_seq ?_))
          refine cw_cond rfl (fun hb108 => ?_) (fun hb108 => ?_)
          · replace h := condT hb108 h
            refine cw_skip (cw_seq (cw_block (cw_seq ?_)))
            obtain ⟨v109, hv109, h⟩ := bindE h
            refine cw_rg hnt rfl (x_ia E22 rfl (eX (ar p0.Attrs) rfl) rfl hv109 (k0 rfl) <| x_ld L42 (eQ rfl) rfl (sX (.agg [tx v109.Typ, ar v109.Vals]) rfl) (k0 rfl) <| x_al Z42 (k0 rfl) <| x_st L42 (eP rfl) rfl rfl rfl rfl (k0 rfl) <| lx_nil) (cw_seq (cw_seq ?_))
            obtain ⟨v110, hv110, h⟩ := bindE h
            refine cw_rg hnt rfl (x_ld L42 (eP rfl) rfl (sX (.agg [tx v109.Typ, ar v109.Vals]) rfl) (k0 rfl) <| x_mv (eO rfl) (k0 rfl) <| x_bo (eF rfl) P30 (c_schema_attribute v109 v87 v110 hv110) (id := 43) rfl rfl (fzc Fz2.keep (fzc fzO fzn)) Pl.val (k0 rfl) <| x_as (eI rfl) (k0 rfl) <| lx_nil) (cw_seq (cw_rg hnt rfl (x_mv (eI rfl) (k0 rfl) <| x_ci (eX (.val (.int .i64 v110)) rfl) (eX (.val (.int .i64 0)) rfl) rfl (k0 rfl) <| lx_nil) ?_))
            refine cw_cond rfl (fun hb111 => ?_) (fun hb111 => ?_)
            · replace h := condT hb111 h
              refine cw_seq (cw_rg hnt rfl (x_mv (eI rfl) (k0 rfl) <| x_as (eI rfl) (k0 rfl) <| lx_nil) (cw_ret (cw_rc (cw_rb (cw_rc (cw_rt (cw_rb (cw_rt (cw_rc (cw_rn ?_))))))))))
              cases h
              exact ⟨rfl, sub0⟩
            · replace h := condF hb111 h
              refine cw_skip (cw_seq ?_)
              obtain ⟨v112, hv112, h⟩ := bindE h
              refine cw_rg hnt rfl (x_fp F42_0 (eP rfl) (k0 rfl) <| x_ld L9 (eP rfl) rfl (sX (tx v109.Typ) rfl) (k0 rfl) <| x_pu (eF rfl) P31 (c_match_Canon v109.Typ v112 hv112) rfl (k0 rfl) <| x_mv (eW rfl) (k0 rfl) <| x_ex (eW rfl) (sX (tx v112.1) rfl) (k0 rfl) <| x_ex (eW rfl) (sX (bo v112.2) rfl) (k0 rfl) <| x_al Z9 (k0 rfl) <| x_st L9 (eP rfl) rfl rfl rfl rfl (k0 rfl) <| x_as (eB rfl) (k0 rfl) <| lx_nil) (cw_seq ?_)
              obtain ⟨v113, hv113, h⟩ := bindE h
              refine cw_rg hnt rfl (x_mv (eO rfl) (k0 rfl) <| x_ld L9 (eP rfl) rfl (sX (tx v112.1) rfl) (k0 rfl) <| x_bsA ([v112.1] : List Str) E27 rfl rfl (k0 rfl) <| x_apO (l1 := v87) E27 rfl rfl rfl (vlA' (l := ([v112.1] : List Str)) rfl rfl) hv113 (k0 rfl) <| x_as (eO rfl) (k0 rfl) <| lx_nil) (cw_seq (cw_seq (cw_rg hnt rfl (x_ld L9 (eP rfl) rfl (sX (tx v112.1) rfl) (k0 rfl) <| x_ct (eT rfl) (eT rfl) rfl (k0 rfl) <| lx_nil) ?_)))
              refine cw_cond rfl (fun hb114 => ?_) (fun hb114 => ?_)
              · replace h := condT hb114 h
                refine cw_rg hnt rfl (x_fp F42_1 (eP rfl) (k0 rfl) <| x_ld L27 (eP rfl) rfl (sX (ar v109.Vals) rfl) (k0 rfl) <| x_as (eA rfl) (k0 rfl) <| lx_nil) (cw_seq ?_)
                obtain ⟨v115, hv115, h⟩ := bindE h
                refine cw_ra [] [] [] [4] hnt rfl Tryz.mixed (by kernel_rfl) rfl (by decide) (x_ld L9 (eP rfl) rfl (sX (tx v112.1) rfl) (k0 rfl) <| x_fp F49_0 (eP rfl) (k0 rfl) <| x_ld L9 (eP rfl) rfl (sX (tx v8.Typ) rfl) (k0 rfl) <| x_pu (eF rfl) P25 (c_schema_lowered v8.Typ v115 hv115) rfl (k0 rfl) <| x_ct (eT rfl) (eT rfl) rfl (k0 rfl) <| lx_nil) ?_
                refine cw_cond rfl (fun hb116 => ?_) (fun hb116 => ?_)
                · replace h := condT hb116 h
                  obtain ⟨v117, hv117, h⟩ := bindE h
                  refine cw_rg hnt rfl (x_fp F42_1 (eP rfl) (k0 rfl) <| x_ld L27 (eP rfl) rfl (sX (ar v109.Vals) rfl) (k0 rfl) <| x_mf (eXL [.ptr 61 0 0, .ptr 37 0 0] rfl) (k0 rfl) <| x_fx (eF rfl) P32 (c_slices_ContainsFunc_string v109.Vals (fun x => s_schema_Check_1 x v112.1 v8) (q_schema_Check_1 v112.1 v8 [61, 37] 82 (by decide) rfl P33) v117 hv117) (subH ⟨rfl, rfl, trivial⟩) rfl (k0 rfl) <| x_as (eB rfl) (k0 rfl) <| lx_nil) (cw_blk ?_)
                  obtain ⟨v118, hv118, h⟩ := bindE h
                  refine cw_rg hnt rfl (x_ai (eI rfl) (eI rfl) hv118 (k0 rfl) <| x_mv (eI rfl) (k0 rfl) <| lx_nil) (cw_nil ?_)
                  exact ⟨g1, _, Nat.lt_succ_self _, (to_ren (N := 0) (n' := 44) (L := [(7, .own 43 0 v113.length), (8, ar v109.Vals), (9, bo v117), (10, .ptr 37 0 0), (45, ar p0.Attrs), (46, i64 (p0.Attrs.length : Int)), (47, i64 v118)]) (H := [(37, ⟨[[tx v8.Typ, tx v8.Val]], 2⟩), (43, ob (v113 : List Str))]) (fun y => bif Nat.beq y 43 then 67 else y) [37, 43] [] hn rfl rfl rfl fix0 (by decide) ⟨(Tr.own rfl), tra, trv, (Tr.ptr rfl), tra, trv, trv, trivial⟩ ⟨.inr ⟨rfl, _, rfl, TrO.cell (.cons trv (.cons trv .nil)) rfl⟩, .inr ⟨rfl, _, rfl, tro⟩, trivial⟩), v109.Vals, v117, v118, v113, h, rfl⟩
                · replace h := condF hb116 h
                  refine cw_skip (cw_blk ?_)
                  obtain ⟨v119, hv119, h⟩ := bindE h
                  refine cw_rg hnt rfl (x_ai (eI rfl) (eI rfl) hv119 (k0 rfl) <| x_mv (eI rfl) (k0 rfl) <| lx_nil) (cw_nil ?_)
                  exact ⟨g1, _, Nat.lt_succ_self _, (to_ren (N := 0) (n' := 44) (L := [(7, .own 43 0 v113.length), (8, ar v109.Vals), (9, bo v89), (10, .ptr 37 0 0), (45, ar p0.Attrs), (46, i64 (p0.Attrs.length : Int)), (47, i64 v119)]) (H := [(37, ⟨[[tx v8.Typ, tx v8.Val]], 2⟩), (43, ob (v113 : List Str))]) (fun y => bif Nat.beq y 43 then 67 else y) [37, 43] [] hn rfl rfl rfl fix0 (by decide) ⟨(Tr.own rfl), tra, trv, (Tr.ptr rfl), tra, trv, trv, trivial⟩ ⟨.inr ⟨rfl, _, rfl, TrO.cell (.cons trv (.cons trv .nil)) rfl⟩, .inr ⟨rfl, _, rfl, tro⟩, trivial⟩), v109.Vals, v89, v119, v113, h, rfl⟩
              · replace h := condF hb114 h
                refine cw_skip (cw_seq ?_)
                obtain ⟨v120, hv120, h⟩ := bindE h
                refine cw_ra [] [] [] [4] hnt rfl Tryz.mixed (by kernel_rfl) rfl (by decide) (x_ld L9 (eP rfl) rfl (sX (tx v112.1) rfl) (k0 rfl) <| x_fp F49_0 (eP rfl) (k0 rfl) <| x_ld L9 (eP rfl) rfl (sX (tx v8.Typ) rfl) (k0 rfl) <| x_pu (eF rfl) P25 (c_schema_lowered v8.Typ v120 hv120) rfl (k0 rfl) <| x_ct (eT rfl) (eT rfl) rfl (k0 rfl) <| lx_nil) ?_
                refine cw_cond rfl (fun hb121 => ?_) (fun hb121 => ?_)
                · replace h := condT hb121 h
                  obtain ⟨v122, hv122, h⟩ := bindE h
                  refine cw_rg hnt rfl (x_fp F42_1 (eP rfl) (k0 rfl) <| x_ld L27 (eP rfl) rfl (sX (ar v109.Vals) rfl) (k0 rfl) <| x_mf (eXL [.ptr 61 0 0, .ptr 37 0 0] rfl) (k0 rfl) <| x_fx (eF rfl) P32 (c_slices_ContainsFunc_string v109.Vals (fun x => s_schema_Check_1 x v112.1 v8) (q_schema_Check_1 v112.1 v8 [61, 37] 79 (by decide) rfl P33) v122 hv122) (subH ⟨rfl, rfl, trivial⟩) rfl (k0 rfl) <| x_as (eB rfl) (k0 rfl) <| lx_nil) (cw_blk ?_)
                  obtain ⟨v123, hv123, h⟩ := bindE h
                  refine cw_rg hnt rfl (x_ai (eI rfl) (eI rfl) hv123 (k0 rfl) <| x_mv (eI rfl) (k0 rfl) <| lx_nil) (cw_nil ?_)
                  exact ⟨g1, _, Nat.lt_succ_self _, (to_ren (N := 0) (n' := 44) (L := [(7, .own 43 0 v113.length), (8, ar v88), (9, bo v122), (10, .ptr 37 0 0), (45, ar p0.Attrs), (46, i64 (p0.Attrs.length : Int)), (47, i64 v123)]) (H := [(37, ⟨[[tx v8.Typ, tx v8.Val]], 2⟩), (43, ob (v113 : List Str))]) (fun y => bif Nat.beq y 43 then 67 else y) [37, 43] [] hn rfl rfl rfl fix0 (by decide) ⟨(Tr.own rfl), tra, trv, (Tr.ptr rfl), tra, trv, trv, trivial⟩ ⟨.inr ⟨rfl, _, rfl, TrO.cell (.cons trv (.cons trv .nil)) rfl⟩, .inr ⟨rfl, _, rfl, tro⟩, trivial⟩), v88, v122, v123, v113, h, rfl⟩
                · replace h := condF hb121 h
                  refine cw_skip (cw_blk ?_)
                  obtain ⟨v124, hv124, h⟩ := bindE h
                  refine cw_rg hnt rfl (x_ai (eI rfl) (eI rfl) hv124 (k0 rfl) <| x_mv (eI rfl) (k0 rfl) <| lx_nil) (cw_nil ?_)
                  exact ⟨g1, _, Nat.lt_succ_self _, (to_ren (N := 0) (n' := 44) (L := [(7, .own 43 0 v113.length), (8, ar v88), (9, bo v89), (10, .ptr 37 0 0), (45, ar p0.Attrs), (46, i64 (p0.Attrs.length : Int)), (47, i64 v124)]) (H := [(37, ⟨[[tx v8.Typ, tx v8.Val]], 2⟩), (43, ob (v113 : List Str))]) (fun y => bif Nat.beq y 43 then 67 else y) [37, 43] [] hn rfl rfl rfl fix0 (by decide) ⟨(Tr.own rfl), tra, trv, (Tr.ptr rfl), tra, trv, trv, trivial⟩ ⟨.inr ⟨rfl, _, rfl, TrO.cell (.cons trv (.cons trv .nil)) rfl⟩, .inr ⟨rfl, _, rfl, tro⟩, trivial⟩), v88, v89, v124, v113, h, rfl⟩
          · replace h := condF hb108 h
            refine cw_exit (cw_xc (cw_xt (cw_xb (cw_nil ?_))))
            exact ⟨_, (to_ren (N := 0) (n' := 45) (L := [(7, .own 43 0 v87.length), (8, ar v88), (9, bo v89)]) (H := [(43, ob (v87 : List Str))]) (id) [43] [] hn rfl rfl rfl fix0 (by decide) ⟨(Tr.own rfl), tra, trv, trivial⟩ ⟨.inr ⟨rfl, _, rfl, tro⟩, trivial⟩), v88, v89, v87, h, rfl⟩
        · rintro _ ⟨v65, v66, v64, h, rfl⟩
          rw [schema_Check_k1] at h
          refine cw_seq (cw_block (cw_seq ?_))
          obtain ⟨v67, hv67, h⟩ := bindE h
          refine cw_rg hnt rfl (x_mv (eO rfl) (k0 rfl) <| x_mv (eA rfl) (k0 rfl) <| x_bo (eF rfl) P35 (c_schema_classed v64 v65 v67 hv67) (id := 43) rfl rfl (fzc fzO (fzc Fz2.keep fzn)) Pl.val (k0 rfl) <| x_not (eB rfl) (k0 rfl) <| x_as (eB rfl) (k0 rfl) <| lx_nil) ?_
          refine cw_cond rfl (fun hb68 => ?_) (fun hb68 => ?_)
          · replace h := condT hb68 h
            refine cw_seq (cw_rg hnt rfl (x_as (eI rfl) (k0 rfl) <| lx_nil) (cw_ret (cw_rb (cw_rc (cw_rn ?_)))))
            cases h
            exact ⟨rfl, sub0⟩
          · replace h := condF hb68 h
            refine cw_seq (cw_rg hnt rfl (x_mv (eB rfl) (k0 rfl) <| x_not (eB rfl) (k0 rfl) <| x_as (eB rfl) (k0 rfl) <| lx_nil) ?_)
            refine cw_cond rfl (fun hb69 => ?_) (fun hb69 => ?_)
            · replace h := condT hb69 h
              refine cw_seq (cw_rg hnt rfl (x_as (eI rfl) (k0 rfl) <| lx_nil) (cw_ret (cw_rb (cw_rc (cw_rn ?_)))))
              cases h
              exact ⟨rfl, sub0⟩
            · replace h := condF hb69 h
              refine cw_skip (cw_blk (cw_seq (cw_rg hnt rfl (x_as (eI rfl) (k0 rfl) <| lx_nil) (cw_ret (cw_rn ?_)))))
              cases h
              exact ⟨rfl, sub0⟩
end Go.Ka
