/- The program comes to what the plain functions say. -/
import Derived.Test.YtnbmjbpekblhbaaGreatDoorMD
import Derived.Test.YtnbmjbpekblhbaaGreatDoorMB
import Derived.Test.YtnbmjbpekblhbaaGreatDoorMC
import Derived.Test.YtnbmjbpekblhbaaGreatDoorCA
import Derived.Test.YtnbmjbpekblhbaaGreatDoorME
set_option linter.all false
namespace Go.Ka
open Go.Proofs Go.Ka.Tryz
open Enc (enc)
variable [Tab] [Tabs]
set_option maxRecDepth 100000

theorem c_brooklaw4_PersonT (p0 : Str) (r : T_EntryT) (h : s_brooklaw4_PersonT p0 = some r) : Nw Tryz.prog 18 [tx p0] (fun id => .agg [tx r.Dn, .own id 0 r.Attrs.length]) (ob r.Attrs) := by
  refine ⟨(nfc nfv nfn), nfob, 0, fs_start _ _ Tryz.func18 rfl Tryz.ntmps18 Tryz.results18 rfl fun X hnt hn => ?_, (Fam.agg (.cons (Fam.nf nfv) (.cons Fam.own .nil)) (fun _ => rfl))⟩
  rw [s_brooklaw4_PersonT] at h
  refine cw_seq (cw_rg hnt rfl (x_al Z24 (k0 rfl) <| lx_nil) (cw_seq ?_))
  obtain ⟨v1, hv1, h⟩ := bindE h
  obtain ⟨v2, hv2, h⟩ := bindE h
  refine cw_rg hnt rfl (x_mv (eT rfl) (k0 rfl) <| x_cat (eT rfl) (eT rfl) hv1 (k0 rfl) <| x_cat (eT rfl) (eT rfl) hv2 (k0 rfl) <| x_mv (eT rfl) (k0 rfl) <| x_bsT ([p0] : List Str) E27 rfl rfl rfl (k0 rfl) <| x_bd B42 (sX3 ([tx k_cn, .tst ([p0] : List Str)]) rfl) (k0 rfl) <| x_bsT ([k_person] : List Str) E27 rfl rfl rfl (k0 rfl) <| x_bd B42 (sX3 ([tx k_objectclass, .tst ([k_person] : List Str)]) rfl) (k0 rfl) <| x_bsT ([k_s] : List Str) E27 rfl rfl rfl (k0 rfl) <| x_bd B42 (sX3 ([tx k_sn, .tst ([k_s] : List Str)]) rfl) (k0 rfl) <| x_bsO ([(⟨k_cn, [p0]⟩ : T_AttrT), (⟨k_objectclass, [k_person]⟩ : T_AttrT), (⟨k_sn, [k_s]⟩ : T_AttrT)] : List T_AttrT) E22 rfl (sX2 [[tx k_cn, .tst ([p0] : List Str)], [tx k_objectclass, .tst ([k_person] : List Str)], [tx k_sn, .tst ([k_s] : List Str)]] rfl) rfl rfl (wkl (wkc (Wk.refl _) (wkc (Wk.refl _) wkn0)) (wkl (wkc (Wk.refl _) (wkc (Wk.refl _) wkn0)) (wkl (wkc (Wk.refl _) (wkc (Wk.refl _) wkn0)) wkn))) (k0 rfl) <| x_bd B24 (sX3 ([tx v2, .own 11 0 (([(⟨k_cn, [p0]⟩ : T_AttrT), (⟨k_objectclass, [k_person]⟩ : T_AttrT), (⟨k_sn, [k_s]⟩ : T_AttrT)] : List T_AttrT).length)]) rfl) (k0 rfl) <| x_st L24 (eP rfl) rfl rfl rfl rfl (k0 rfl) <| lx_nil) (cw_to (to_ren (N := 0) (n' := 15) (L := [(2, .ptr 14 0 0)]) (H := [(0, ob (([(⟨k_cn, [p0]⟩ : T_AttrT), (⟨k_objectclass, [k_person]⟩ : T_AttrT), (⟨k_sn, [k_s]⟩ : T_AttrT)] : List T_AttrT) : List T_AttrT)), (14, ⟨[[tx v2, .own 0 0 (([(⟨k_cn, [p0]⟩ : T_AttrT), (⟨k_objectclass, [k_person]⟩ : T_AttrT), (⟨k_sn, [k_s]⟩ : T_AttrT)] : List T_AttrT).length)]], 2⟩)]) (fun y => bif Nat.beq y 0 then 11 else bif Nat.beq y 14 then 0 else y) [0, 14] [] hn rfl rfl rfl fix0 (by decide) ⟨(Tr.ptr rfl), trivial⟩ ⟨.inr ⟨rfl, _, rfl, tro⟩, .inr ⟨rfl, _, rfl, TrO.cell (.cons trv (.cons (Tr.own rfl) .nil)) rfl⟩, trivial⟩) (cw_ret (cw_rn ?_)))
  cases h
  exact ⟨rfl, sub1 rfl⟩

theorem c_brooklaw4_Great (p0 : T_Entry) (r : Bool) (h : s_brooklaw4_Great p0 = some r) : Pu Tryz.prog 9 [.agg (enc p0)] (bo r) := by
  refine ⟨(nfc nfe nfn), nfv, fs_start _ _ Tryz.func9 rfl Tryz.ntmps9 Tryz.results9 rfl fun X hnt hn => ?_⟩
  rw [s_brooklaw4_Great] at h
  refine cw_seq (cw_rg hnt rfl (x_bx rfl (k0 rfl) <| x_as (eB rfl) (k0 rfl) <| lx_nil) (cw_seq (cw_seq (cw_rg hnt rfl (x_as (eI rfl) (k0 rfl) <| lx_nil) ?_))))
  refine cw_cut (fun st => brooklaw4_Great_k1 p0 = some r ∧ st = ⟨ls [(1, .ptr 0 0 0)], hl [(0, ⟨[[tx p0.Dn, ar p0.Attrs]], 2⟩)], 12⟩) ?_ ?_
  · skip
    refine cw_block (cw_to (to_ren (N := 0) (n' := 3) (L := [(1, .ptr 0 0 0), (3, i64 0)]) (H := [(0, ⟨[[tx p0.Dn, ar p0.Attrs]], 2⟩)]) (id) [0] [] hn rfl rfl rfl fix0 (by decide) ⟨(Tr.ptr rfl), trv, trivial⟩ ⟨.inr ⟨rfl, _, rfl, TrO.cell (.cons trv (.cons tra .nil)) rfl⟩, trivial⟩) ?_)
    refine cw_loop (fun g st => ∃ (v364 : Int), brooklaw4_Great_l1 p0 g v364 = some r ∧ st = ⟨ls [(1, .ptr 0 0 0), (3, i64 v364)], hl [(0, ⟨[[tx p0.Dn, ar p0.Attrs]], 2⟩)], 3⟩) FUEL ⟨0, h, rfl⟩ ?_
    rintro g _ ⟨v364, h, rfl⟩
    rcases g with _ | g1
    · rw [brooklaw4_Great_l1] at h; cases h
    rw [brooklaw4_Great_l1] at h
    refine cw_seq (cw_seq ?_)
    obtain ⟨v456, hq, h⟩ := bindE h
    refine cw_rl [(13, bo v456)] (D := [5, 6, 7, 8, 9, 10, 11, 12, 13]) hnt rfl rfl (by
      rcases Bool.eq_false_or_eq_true ((decide (v364 < (p0.Attrs.length : Int)))) with hb455 | hb455
      · replace hq := condT hb455 hq
        replace hq := Option.some.inj hq
        subst hq
        exact ⟨_, _, x_mv (eI rfl) (k0 rfl) <| x_fp F24_1 (eP rfl) (k0 rfl) <| x_ld L22 (eP rfl) rfl (sX (ar p0.Attrs) rfl) (k0 rfl) <| x_lnA E22 (eX (ar p0.Attrs) rfl) (k0 rfl) <| x_ci (eX (.val (.int .i64 v364)) rfl) (eX (.val (.int .i64 (p0.Attrs.length : Int))) rfl) rfl (k0 rfl) <| x_mv (eB rfl) (k0 rfl) <| x_mv (eI rfl) (k1 rfl rfl rfl (congrArg bo hb455)) <| x_ci (eX (.val (.int .i64 v364)) rfl) (eX (.val (.int .i64 30)) rfl) rfl (k1 rfl rfl rfl (congrArg bo hb455)) <| x_pt rfl hb455 (eB rfl) (k0 rfl) <| lx_nil, ⟨rfl, trivial⟩⟩
      · replace hq := condF hb455 hq
        replace hq := Option.some.inj hq
        subst hq
        exact ⟨_, _, x_mv (eI rfl) (k0 rfl) <| x_fp F24_1 (eP rfl) (k0 rfl) <| x_ld L22 (eP rfl) rfl (sX (ar p0.Attrs) rfl) (k0 rfl) <| x_lnA E22 (eX (ar p0.Attrs) rfl) (k0 rfl) <| x_ci (eX (.val (.int .i64 v364)) rfl) (eX (.val (.int .i64 (p0.Attrs.length : Int))) rfl) rfl (k0 rfl) <| x_mv (eB rfl) (k0 rfl) <| lx_off rfl rfl (congrArg bo hb455) rfl <| lx_off rfl rfl (congrArg bo hb455) rfl <| x_pf rfl hb455 (eB rfl) (k0 rfl) <| lx_nil, ⟨rfl, trivial⟩⟩) ?_
    refine cw_cond rfl (fun hb457 => ?_) (fun hb457 => ?_)
    · replace h := condT hb457 h
      refine cw_skip (cw_seq ?_)
      refine cw_cut (fun st => brooklaw4_Great_k2 v364 (brooklaw4_Great_l1 p0 g1) = some r ∧ st = ⟨ls [(1, .ptr 0 0 0), (3, i64 v364)], hl [(0, ⟨[[tx p0.Dn, ar p0.Attrs]], 2⟩)], 40⟩) ?_ ?_
      · skip
        refine cw_block (cw_seq (cw_seq ?_))
        obtain ⟨v505, hq, h⟩ := bindE h
        refine cw_rl [(33, bo v505)] (D := [16, 17, 18, 19, 20, 21, 22, 23, 24, 25, 26, 27, 28, 29, 30, 31, 32, 33]) hnt rfl rfl (by
          obtain ⟨v502, hv502, hq⟩ := bindE hq
          rcases Bool.eq_false_or_eq_true ((decide ((v502.Typ.length : Int) > 100))) with hb503 | hb503
          · replace hq := condT hb503 hq
            replace hq := Option.some.inj hq
            subst hq
            exact ⟨_, _, x_fp F24_1 (eP rfl) (k0 rfl) <| x_ld L22 (eP rfl) rfl (sX (ar p0.Attrs) rfl) (k0 rfl) <| x_mv (eI rfl) (k0 rfl) <| x_ia E22 rfl (eX (ar p0.Attrs) rfl) rfl hv502 (k0 rfl) <| x_fq F42_0 (eQ rfl) (k0 rfl) <| x_ld L9 (eQ rfl) rfl (sX (tx v502.Typ) rfl) (k0 rfl) <| x_lnT T9 (eT rfl) (k0 rfl) <| x_ci (eX (.val (.int .i64 (v502.Typ.length : Int))) rfl) (eX (.val (.int .i64 100)) rfl) rfl (k0 rfl) <| x_mv (eB rfl) (k0 rfl) <| lx_off rfl rfl (congrArg bo hb503) rfl <| lx_off rfl rfl (congrArg bo hb503) rfl <| lx_off rfl rfl (congrArg bo hb503) rfl <| lx_off rfl rfl (congrArg bo hb503) rfl <| lx_off rfl rfl (congrArg bo hb503) rfl <| lx_off rfl rfl (congrArg bo hb503) rfl <| lx_off rfl rfl (congrArg bo hb503) rfl <| lx_off rfl rfl (congrArg bo hb503) rfl <| x_pt rfl hb503 (eB rfl) (k0 rfl) <| lx_nil, ⟨rfl, trivial⟩⟩
          · replace hq := condF hb503 hq
            obtain ⟨v504, hv504, hq⟩ := bindE hq
            replace hq := Option.some.inj hq
            subst hq
            exact ⟨_, _, x_fp F24_1 (eP rfl) (k0 rfl) <| x_ld L22 (eP rfl) rfl (sX (ar p0.Attrs) rfl) (k0 rfl) <| x_mv (eI rfl) (k0 rfl) <| x_ia E22 rfl (eX (ar p0.Attrs) rfl) rfl hv502 (k0 rfl) <| x_fq F42_0 (eQ rfl) (k0 rfl) <| x_ld L9 (eQ rfl) rfl (sX (tx v502.Typ) rfl) (k0 rfl) <| x_lnT T9 (eT rfl) (k0 rfl) <| x_ci (eX (.val (.int .i64 (v502.Typ.length : Int))) rfl) (eX (.val (.int .i64 100)) rfl) rfl (k0 rfl) <| x_mv (eB rfl) (k0 rfl) <| x_fp F24_1 (eP rfl) (k1 rfl rfl rfl (congrArg bo hb503)) <| x_ld L22 (eP rfl) rfl (sX (ar p0.Attrs) rfl) (k1 rfl rfl rfl (congrArg bo hb503)) <| x_mv (eI rfl) (k1 rfl rfl rfl (congrArg bo hb503)) <| x_ia E22 rfl (eX (ar p0.Attrs) rfl) rfl hv504 (k1 rfl rfl rfl (congrArg bo hb503)) <| x_fq F42_1 (eQ rfl) (k1 rfl rfl rfl (congrArg bo hb503)) <| x_ld L27 (eQ rfl) rfl (sX (ar v504.Vals) rfl) (k1 rfl rfl rfl (congrArg bo hb503)) <| x_lnA E27 (eX (ar v504.Vals) rfl) (k1 rfl rfl rfl (congrArg bo hb503)) <| x_ci (eX (.val (.int .i64 (v504.Vals.length : Int))) rfl) (eX (.val (.int .i64 50)) rfl) rfl (k1 rfl rfl rfl (congrArg bo hb503)) <| x_pf rfl hb503 (eB rfl) (k0 rfl) <| lx_nil, ⟨rfl, trivial⟩⟩) ?_
        refine cw_cond rfl (fun hb506 => ?_) (fun hb506 => ?_)
        · replace h := condT hb506 h
          refine cw_seq (cw_rg hnt rfl (x_as (eB rfl) (k0 rfl) <| lx_nil) (cw_ret (cw_rc (cw_rb (cw_rt (cw_rc (cw_rt (cw_rb (cw_rt (cw_rc (cw_rn ?_)))))))))))
          cases h
          exact ⟨rfl, sub0⟩
        · replace h := condF hb506 h
          refine cw_skip (cw_seq (cw_rg hnt rfl (x_as (eI rfl) (k0 rfl) <| lx_nil) ?_))
          refine cw_cut (fun st => brooklaw4_Great_k3 v364 (brooklaw4_Great_l1 p0 g1) = some r ∧ st = ⟨ls [(1, .ptr 0 0 0), (3, i64 v364)], hl [(0, ⟨[[tx p0.Dn, ar p0.Attrs]], 2⟩)], 40⟩) ?_ ?_
          · skip
            refine cw_block (cw_to (to_ren (N := 0) (n' := 31) (L := [(1, .ptr 0 0 0), (3, i64 v364), (4, i64 0)]) (H := [(0, ⟨[[tx p0.Dn, ar p0.Attrs]], 2⟩)]) (id) [0] [] hn rfl rfl rfl fix0 (by decide) ⟨(Tr.ptr rfl), trv, trv, trivial⟩ ⟨.inr ⟨rfl, _, rfl, TrO.cell (.cons trv (.cons tra .nil)) rfl⟩, trivial⟩) ?_)
            refine cw_loop (fun g st => ∃ (v532 : Int), brooklaw4_Great_l2 p0 v364 (brooklaw4_Great_l1 p0 g1) g v532 = some r ∧ st = ⟨ls [(1, .ptr 0 0 0), (3, i64 v364), (4, i64 v532)], hl [(0, ⟨[[tx p0.Dn, ar p0.Attrs]], 2⟩)], 31⟩) FUEL ⟨0, h, rfl⟩ ?_
            rintro g _ ⟨v532, h, rfl⟩
            rcases g with _ | g2
            · rw [brooklaw4_Great_l2] at h; cases h
            rw [brooklaw4_Great_l2] at h
            refine cw_seq (cw_seq ?_)
            obtain ⟨v539, hv539, h⟩ := bindE h
            refine cw_rg hnt rfl (x_mv (eI rfl) (k0 rfl) <| x_fp F24_1 (eP rfl) (k0 rfl) <| x_ld L22 (eP rfl) rfl (sX (ar p0.Attrs) rfl) (k0 rfl) <| x_mv (eI rfl) (k0 rfl) <| x_ia E22 rfl (eX (ar p0.Attrs) rfl) rfl hv539 (k0 rfl) <| x_fq F42_1 (eQ rfl) (k0 rfl) <| x_ld L27 (eQ rfl) rfl (sX (ar v539.Vals) rfl) (k0 rfl) <| x_lnA E27 (eX (ar v539.Vals) rfl) (k0 rfl) <| x_ci (eX (.val (.int .i64 v532)) rfl) (eX (.val (.int .i64 (v539.Vals.length : Int))) rfl) rfl (k0 rfl) <| lx_nil) ?_
            refine cw_cond rfl (fun hb540 => ?_) (fun hb540 => ?_)
            · replace h := condT hb540 h
              refine cw_skip (cw_seq (cw_block (cw_seq ?_)))
              obtain ⟨v541, hv541, h⟩ := bindE h
              obtain ⟨v542, hv542, h⟩ := bindE h
              refine cw_rg hnt rfl (x_fp F24_1 (eP rfl) (k0 rfl) <| x_ld L22 (eP rfl) rfl (sX (ar p0.Attrs) rfl) (k0 rfl) <| x_mv (eI rfl) (k0 rfl) <| x_ia E22 rfl (eX (ar p0.Attrs) rfl) rfl hv541 (k0 rfl) <| x_fq F42_1 (eQ rfl) (k0 rfl) <| x_ld L27 (eQ rfl) rfl (sX (ar v541.Vals) rfl) (k0 rfl) <| x_mv (eI rfl) (k0 rfl) <| x_ia E27 rfl (eX (ar v541.Vals) rfl) rfl hv542 (k0 rfl) <| x_ld L9 (eQ rfl) rfl (sX (tx v542) rfl) (k0 rfl) <| x_lnT T9 (eT rfl) (k0 rfl) <| x_ci (eX (.val (.int .i64 (v542.length : Int))) rfl) (eX (.val (.int .i64 300)) rfl) rfl (k0 rfl) <| lx_nil) ?_
              refine cw_cond rfl (fun hb543 => ?_) (fun hb543 => ?_)
              · replace h := condT hb543 h
                refine cw_seq (cw_rg hnt rfl (x_as (eB rfl) (k0 rfl) <| lx_nil) (cw_ret (cw_rb (cw_rc (cw_rt (cw_rb (cw_rt (cw_rb (cw_rt (cw_rc (cw_rt (cw_rb (cw_rt (cw_rc (cw_rn ?_)))))))))))))))
                cases h
                exact ⟨rfl, sub0⟩
              · replace h := condF hb543 h
                refine cw_skip (cw_blk ?_)
                obtain ⟨v544, hv544, h⟩ := bindE h
                refine cw_rg hnt rfl (x_mv (eI rfl) (k0 rfl) <| x_ai (eI rfl) (eI rfl) hv544 (k0 rfl) <| x_as (eI rfl) (k0 rfl) <| lx_nil) (cw_nil ?_)
                exact ⟨g2, _, Nat.lt_succ_self _, (to_ren (N := 0) (n' := 31) (L := [(1, .ptr 0 0 0), (3, i64 v364), (4, i64 v544)]) (H := [(0, ⟨[[tx p0.Dn, ar p0.Attrs]], 2⟩)]) (id) [0] [] hn rfl rfl rfl fix0 (by decide) ⟨(Tr.ptr rfl), trv, trv, trivial⟩ ⟨.inr ⟨rfl, _, rfl, TrO.cell (.cons trv (.cons tra .nil)) rfl⟩, trivial⟩), v544, h, rfl⟩
            · replace h := condF hb540 h
              refine cw_exit (cw_xc (cw_xt (cw_xb (cw_nil ?_))))
              exact ⟨_, (to_ren (N := 0) (n' := 40) (L := [(1, .ptr 0 0 0), (3, i64 v364)]) (H := [(0, ⟨[[tx p0.Dn, ar p0.Attrs]], 2⟩)]) (id) [0] [] hn rfl rfl rfl fix0 (by decide) ⟨(Tr.ptr rfl), trv, trivial⟩ ⟨.inr ⟨rfl, _, rfl, TrO.cell (.cons trv (.cons tra .nil)) rfl⟩, trivial⟩), h, rfl⟩
          · rintro _ ⟨h, rfl⟩
            rw [brooklaw4_Great_k3] at h
            refine cw_blk (cw_nil ?_)
            exact ⟨_, (to_ren (N := 0) (n' := 40) (L := [(1, .ptr 0 0 0), (3, i64 v364)]) (H := [(0, ⟨[[tx p0.Dn, ar p0.Attrs]], 2⟩)]) (id) [0] [] hn rfl rfl rfl fix0 (by decide) ⟨(Tr.ptr rfl), trv, trivial⟩ ⟨.inr ⟨rfl, _, rfl, TrO.cell (.cons trv (.cons tra .nil)) rfl⟩, trivial⟩), h, rfl⟩
      · rintro _ ⟨h, rfl⟩
        rw [brooklaw4_Great_k2] at h
        obtain ⟨v501, hv501, h⟩ := bindE h
        refine cw_rg hnt rfl (x_mv (eI rfl) (k0 rfl) <| x_ai (eI rfl) (eI rfl) hv501 (k0 rfl) <| x_as (eI rfl) (k0 rfl) <| lx_nil) (cw_nil ?_)
        exact ⟨g1, _, Nat.lt_succ_self _, (to_ren (N := 0) (n' := 3) (L := [(1, .ptr 0 0 0), (3, i64 v501)]) (H := [(0, ⟨[[tx p0.Dn, ar p0.Attrs]], 2⟩)]) (id) [0] [] hn rfl rfl rfl fix0 (by decide) ⟨(Tr.ptr rfl), trv, trivial⟩ ⟨.inr ⟨rfl, _, rfl, TrO.cell (.cons trv (.cons tra .nil)) rfl⟩, trivial⟩), v501, h, rfl⟩
    · replace h := condF hb457 h
      refine cw_exit (cw_xc (cw_xt (cw_xb (cw_nil ?_))))
      exact ⟨_, (to_ren (N := 0) (n' := 12) (L := [(1, .ptr 0 0 0)]) (H := [(0, ⟨[[tx p0.Dn, ar p0.Attrs]], 2⟩)]) (id) [0] [] hn rfl rfl rfl fix0 (by decide) ⟨(Tr.ptr rfl), trivial⟩ ⟨.inr ⟨rfl, _, rfl, TrO.cell (.cons trv (.cons tra .nil)) rfl⟩, trivial⟩), h, rfl⟩
  · rintro _ ⟨h, rfl⟩
    rw [brooklaw4_Great_k1] at h
    refine cw_seq ?_
    obtain ⟨v273, hq, h⟩ := bindE h
    refine cw_rl [(2, bo v273)] (D := [56, 57, 58, 59, 60, 61, 62, 63, 64, 65, 2]) hnt rfl rfl (by
      rcases Bool.eq_false_or_eq_true ((decide ((p0.Attrs.length : Int) > 25))) with hb272 | hb272
      · replace hq := condT hb272 hq
        replace hq := Option.some.inj hq
        subst hq
        exact ⟨_, _, x_fp F24_1 (eP rfl) (k0 rfl) <| x_ld L22 (eP rfl) rfl (sX (ar p0.Attrs) rfl) (k0 rfl) <| x_lnA E22 (eX (ar p0.Attrs) rfl) (k0 rfl) <| x_ci (eX (.val (.int .i64 (p0.Attrs.length : Int))) rfl) (eX (.val (.int .i64 25)) rfl) rfl (k0 rfl) <| x_mv (eB rfl) (k0 rfl) <| lx_off rfl rfl (congrArg bo hb272) rfl <| lx_off rfl rfl (congrArg bo hb272) rfl <| lx_off rfl rfl (congrArg bo hb272) rfl <| lx_off rfl rfl (congrArg bo hb272) rfl <| x_pt rfl hb272 (eB rfl) (k0 rfl) <| x_as (eB rfl) (k0 rfl) <| lx_nil, ⟨rfl, trivial⟩⟩
      · replace hq := condF hb272 hq
        replace hq := Option.some.inj hq
        subst hq
        exact ⟨_, _, x_fp F24_1 (eP rfl) (k0 rfl) <| x_ld L22 (eP rfl) rfl (sX (ar p0.Attrs) rfl) (k0 rfl) <| x_lnA E22 (eX (ar p0.Attrs) rfl) (k0 rfl) <| x_ci (eX (.val (.int .i64 (p0.Attrs.length : Int))) rfl) (eX (.val (.int .i64 25)) rfl) rfl (k0 rfl) <| x_mv (eB rfl) (k0 rfl) <| x_fp F24_0 (eP rfl) (k1 rfl rfl rfl (congrArg bo hb272)) <| x_ld L9 (eP rfl) rfl (sX (tx p0.Dn) rfl) (k1 rfl rfl rfl (congrArg bo hb272)) <| x_lnT T9 (eT rfl) (k1 rfl rfl rfl (congrArg bo hb272)) <| x_ci (eX (.val (.int .i64 (p0.Dn.length : Int))) rfl) (eX (.val (.int .i64 600)) rfl) rfl (k1 rfl rfl rfl (congrArg bo hb272)) <| x_pf rfl hb272 (eB rfl) (k0 rfl) <| x_as (eB rfl) (k0 rfl) <| lx_nil, ⟨rfl, trivial⟩⟩) ?_
    refine cw_ret (cw_rn ?_)
    cases h
    exact ⟨rfl, sub0⟩

theorem c_brooklaw4_Person (p0 : Str) (r : T_Entry) (h : s_brooklaw4_Person p0 = some r) : Nw Tryz.prog 18 [tx p0] (fun id => .agg [tx r.Dn, .own id 0 r.Attrs.length]) (ob r.Attrs) := by
  refine ⟨(nfc nfv nfn), nfob, 0, fs_start _ _ Tryz.func18 rfl Tryz.ntmps18 Tryz.results18 rfl fun X hnt hn => ?_, (Fam.agg (.cons (Fam.nf nfv) (.cons Fam.own .nil)) (fun _ => rfl))⟩
  rw [s_brooklaw4_Person] at h
  refine cw_seq (cw_rg hnt rfl (x_al Z24 (k0 rfl) <| lx_nil) (cw_seq ?_))
  obtain ⟨v1, hv1, h⟩ := bindE h
  obtain ⟨v2, hv2, h⟩ := bindE h
  refine cw_rg hnt rfl (x_mv (eT rfl) (k0 rfl) <| x_cat (eT rfl) (eT rfl) hv1 (k0 rfl) <| x_cat (eT rfl) (eT rfl) hv2 (k0 rfl) <| x_mv (eT rfl) (k0 rfl) <| x_bsA ([p0] : List Str) E27 rfl rfl (k0 rfl) <| x_bd B42 (sX3 ([tx k_cn, ar ([p0] : List Str)]) rfl) (k0 rfl) <| x_bsA ([k_person] : List Str) E27 rfl rfl (k0 rfl) <| x_bd B42 (sX3 ([tx k_objectclass, ar ([k_person] : List Str)]) rfl) (k0 rfl) <| x_bsA ([k_s] : List Str) E27 rfl rfl (k0 rfl) <| x_bd B42 (sX3 ([tx k_sn, ar ([k_s] : List Str)]) rfl) (k0 rfl) <| x_bsO ([(⟨k_cn, [p0]⟩ : T_Attr), (⟨k_objectclass, [k_person]⟩ : T_Attr), (⟨k_sn, [k_s]⟩ : T_Attr)] : List T_Attr) E22 rfl (sX2 [[tx k_cn, ar ([p0] : List Str)], [tx k_objectclass, ar ([k_person] : List Str)], [tx k_sn, ar ([k_s] : List Str)]] rfl) rfl rfl (wkl (wkc (Wk.refl _) (wkc (Wk.refl _) wkn0)) (wkl (wkc (Wk.refl _) (wkc (Wk.refl _) wkn0)) (wkl (wkc (Wk.refl _) (wkc (Wk.refl _) wkn0)) wkn))) (k0 rfl) <| x_bd B24 (sX3 ([tx v2, .own 11 0 (([(⟨k_cn, [p0]⟩ : T_Attr), (⟨k_objectclass, [k_person]⟩ : T_Attr), (⟨k_sn, [k_s]⟩ : T_Attr)] : List T_Attr).length)]) rfl) (k0 rfl) <| x_st L24 (eP rfl) rfl rfl rfl rfl (k0 rfl) <| lx_nil) (cw_to (to_ren (N := 0) (n' := 15) (L := [(2, .ptr 14 0 0)]) (H := [(0, ob (([(⟨k_cn, [p0]⟩ : T_Attr), (⟨k_objectclass, [k_person]⟩ : T_Attr), (⟨k_sn, [k_s]⟩ : T_Attr)] : List T_Attr) : List T_Attr)), (14, ⟨[[tx v2, .own 0 0 (([(⟨k_cn, [p0]⟩ : T_Attr), (⟨k_objectclass, [k_person]⟩ : T_Attr), (⟨k_sn, [k_s]⟩ : T_Attr)] : List T_Attr).length)]], 2⟩)]) (fun y => bif Nat.beq y 0 then 11 else bif Nat.beq y 14 then 0 else y) [0, 14] [] hn rfl rfl rfl fix0 (by decide) ⟨(Tr.ptr rfl), trivial⟩ ⟨.inr ⟨rfl, _, rfl, tro⟩, .inr ⟨rfl, _, rfl, TrO.cell (.cons trv (.cons (Tr.own rfl) .nil)) rfl⟩, trivial⟩) (cw_ret (cw_rn ?_)))
  cases h
  exact ⟨rfl, sub1 rfl⟩

theorem c_brooklaw4_awake (r : Bool) (h : s_brooklaw4_awake = some r) : Pu Tryz.prog 10 [] (bo r) := by
  refine ⟨nfn, nfv, fs_start _ _ Tryz.func10 rfl Tryz.ntmps10 Tryz.results10 rfl fun X hnt hn => ?_⟩
  rw [s_brooklaw4_awake] at h
  refine cw_seq (cw_rg hnt rfl (x_as (eB rfl) (k0 rfl) <| lx_nil) (cw_seq ?_))
  obtain ⟨v7, hq, h⟩ := bindE h
  refine cw_rl [(0, bo v7)] (D := [1, 2, 3, 4, 5, 6, 7, 8, 9, 10, 11, 12, 13, 0]) hnt rfl rfl (by
    obtain ⟨v1, hv1, hq⟩ := bindE hq
    rcases Bool.eq_false_or_eq_true ((v1 == 34)) with hb2 | hb2
    · replace hq := condT hb2 hq
      obtain ⟨v3, hv3, hq⟩ := bindE hq
      obtain ⟨v4, hv4, hq⟩ := bindE hq
      rcases Bool.eq_false_or_eq_true ((v4 == 0)) with hb5 | hb5
      · replace hq := condT hb5 hq
        obtain ⟨v6, hv6, hq⟩ := bindE hq
        replace hq := Option.some.inj hq
        subst hq
        exact ⟨_, _, x_bd B24 (sX3 ([tx [], nl]) rfl) (k0 rfl) <| x_puW (eF rfl) P13 (c_schema_Check (⟨[], []⟩ : T_Entry) v1 hv1) rfl (wkc (Wk.agg (wkc (Wk.refl _) (wkc Wk.nil wkn0)) rfl) wkn0) (nfc (NF.agg (nfc nfv (nfc nfv nfn))) nfn) (k0 rfl) <| x_ci (eX (.val (.int .i64 v1)) rfl) (eX (.val (.int .i64 34)) rfl) rfl (k0 rfl) <| x_mv (eB rfl) (k0 rfl) <| x_pu (eF rfl) P18 (Nw.puF (u' := .agg [tx v3.Dn, ar v3.Attrs]) (c_brooklaw4_Person k_ann v3 hv3) (fun _ => (Fz2.agg (fzc Fz2.keep (fzc fzO fzn)) (cellL rfl))) (NF.agg (nfc nfv (nfc nfa nfn)))) rfl (k1 rfl rfl rfl (congrArg bo hb2)) <| x_pu (eF rfl) P13 (c_schema_Check v3 v4 hv4) rfl (k1 rfl rfl rfl (congrArg bo hb2)) <| x_ci (eX (.val (.int .i64 v4)) rfl) (eX (.val (.int .i64 0)) rfl) rfl (k1 rfl rfl rfl (congrArg bo hb2)) <| x_pt rfl hb2 (eB rfl) (k0 rfl) <| x_mv (eB rfl) (k0 rfl) <| x_bd B24 (sX3 ([tx k_x636e3d616e6e, nl]) rfl) (k1 rfl rfl rfl (congrArg bo hb5)) <| x_puW (eF rfl) P13 (c_schema_Check (⟨k_x636e3d616e6e, []⟩ : T_Entry) v6 hv6) rfl (wkc (Wk.agg (wkc (Wk.refl _) (wkc Wk.nil wkn0)) rfl) wkn0) (nfc (NF.agg (nfc nfv (nfc nfv nfn))) nfn) (k1 rfl rfl rfl (congrArg bo hb5)) <| x_ci (eX (.val (.int .i64 v6)) rfl) (eX (.val (.int .i64 65)) rfl) rfl (k1 rfl rfl rfl (congrArg bo hb5)) <| x_pt rfl hb5 (eB rfl) (k0 rfl) <| x_as (eB rfl) (k0 rfl) <| lx_nil, ⟨rfl, trivial⟩⟩
      · replace hq := condF hb5 hq
        replace hq := Option.some.inj hq
        subst hq
        exact ⟨_, _, x_bd B24 (sX3 ([tx [], nl]) rfl) (k0 rfl) <| x_puW (eF rfl) P13 (c_schema_Check (⟨[], []⟩ : T_Entry) v1 hv1) rfl (wkc (Wk.agg (wkc (Wk.refl _) (wkc Wk.nil wkn0)) rfl) wkn0) (nfc (NF.agg (nfc nfv (nfc nfv nfn))) nfn) (k0 rfl) <| x_ci (eX (.val (.int .i64 v1)) rfl) (eX (.val (.int .i64 34)) rfl) rfl (k0 rfl) <| x_mv (eB rfl) (k0 rfl) <| x_pu (eF rfl) P18 (Nw.puF (u' := .agg [tx v3.Dn, ar v3.Attrs]) (c_brooklaw4_Person k_ann v3 hv3) (fun _ => (Fz2.agg (fzc Fz2.keep (fzc fzO fzn)) (cellL rfl))) (NF.agg (nfc nfv (nfc nfa nfn)))) rfl (k1 rfl rfl rfl (congrArg bo hb2)) <| x_pu (eF rfl) P13 (c_schema_Check v3 v4 hv4) rfl (k1 rfl rfl rfl (congrArg bo hb2)) <| x_ci (eX (.val (.int .i64 v4)) rfl) (eX (.val (.int .i64 0)) rfl) rfl (k1 rfl rfl rfl (congrArg bo hb2)) <| x_pt rfl hb2 (eB rfl) (k0 rfl) <| x_mv (eB rfl) (k0 rfl) <| lx_off rfl rfl (congrArg bo hb5) rfl <| lx_off rfl rfl (congrArg bo hb5) rfl <| lx_off rfl rfl (congrArg bo hb5) rfl <| x_pf rfl hb5 (eB rfl) (k0 rfl) <| x_as (eB rfl) (k0 rfl) <| lx_nil, ⟨rfl, trivial⟩⟩
    · replace hq := condF hb2 hq
      replace hq := Option.some.inj hq
      subst hq
      exact ⟨_, _, x_bd B24 (sX3 ([tx [], nl]) rfl) (k0 rfl) <| x_puW (eF rfl) P13 (c_schema_Check (⟨[], []⟩ : T_Entry) v1 hv1) rfl (wkc (Wk.agg (wkc (Wk.refl _) (wkc Wk.nil wkn0)) rfl) wkn0) (nfc (NF.agg (nfc nfv (nfc nfv nfn))) nfn) (k0 rfl) <| x_ci (eX (.val (.int .i64 v1)) rfl) (eX (.val (.int .i64 34)) rfl) rfl (k0 rfl) <| x_mv (eB rfl) (k0 rfl) <| lx_off rfl rfl (congrArg bo hb2) rfl <| lx_off rfl rfl (congrArg bo hb2) rfl <| lx_off rfl rfl (congrArg bo hb2) rfl <| x_pf rfl hb2 (eB rfl) (k0 rfl) <| x_mv (eB rfl) (k0 rfl) <| lx_off rfl rfl rfl rfl <| lx_off rfl rfl rfl rfl <| lx_off rfl rfl rfl rfl <| x_pf rfl rfl (eB rfl) (k0 rfl) <| x_as (eB rfl) (k0 rfl) <| lx_nil, ⟨rfl, trivial⟩⟩) ?_
  refine cw_ret (cw_rn ?_)
  cases h
  exact ⟨rfl, sub0⟩
end Go.Ka
