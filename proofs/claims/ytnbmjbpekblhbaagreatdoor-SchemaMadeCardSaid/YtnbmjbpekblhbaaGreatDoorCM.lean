/- The program comes to what the plain functions say. -/
import Derived.Test.YtnbmjbpekblhbaaGreatDoorMD
import Derived.Test.YtnbmjbpekblhbaaGreatDoorMB
import Derived.Test.YtnbmjbpekblhbaaGreatDoorPM
import Derived.Test.YtnbmjbpekblhbaaGreatDoorCA
import Derived.Test.YtnbmjbpekblhbaaGreatDoorME
import Derived.Test.YtnbmjbpekblhbaaGreatDoorCV
set_option linter.all false
namespace Go.Ka
open Go.Proofs Go.Ka.Tryz
open Enc (enc)
variable [Tab] [Tabs]
set_option maxRecDepth 100000

theorem c_brooklaw4_Make (p0 : Str) (r : T_Entry) (h : s_brooklaw4_Make p0 = some r) : Pu Tryz.prog 16 [ar p0] (.agg (enc r)) := by
  refine ⟨(nfc nfa nfn), nfe, fs_start _ _ Tryz.func16 rfl Tryz.ntmps16 Tryz.results16 rfl fun X hnt hn => ?_⟩
  rw [s_brooklaw4_Make] at h
  refine cw_seq (cw_rg hnt rfl (x_al Z24 (k0 rfl) <| lx_nil) (cw_seq (cw_rg hnt rfl (x_mk (n := 8) (a := (0 : Int)) M54 rfl rfl rfl rfl (k0 rfl) <| x_as (eO rfl) (k0 rfl) <| lx_nil) (cw_seq (cw_seq (cw_rg hnt rfl (x_as (eI rfl) (k0 rfl) <| lx_nil) ?_))))))
  refine cw_cut (fun st => ∃ (v21 : List Int), brooklaw4_Make_k1 v21 = some r ∧ st = ⟨ls [(2, .ptr 0 0 0), (3, .own 1 0 v21.length)], hl [(0, ⟨[[tx [], nl]], 2⟩), (1, ob (v21 : List Int))], 12⟩) ?_ ?_
  · skip
    refine cw_block (cw_to (to_ren (N := 0) (n' := 4) (L := [(0, ar p0), (2, .ptr 0 0 0), (3, .own 1 0 ((List.replicate 8 (0 : Int)).length)), (4, i64 0)]) (H := [(0, ⟨[[tx [], nl]], 2⟩), (1, ob ((List.replicate 8 (0 : Int)) : List Int))]) (id) [0, 1] [] hn rfl rfl rfl fix0 (by decide) ⟨tra, (Tr.ptr rfl), (Tr.own rfl), trv, trivial⟩ ⟨.inr ⟨rfl, _, rfl, TrO.cell (.cons trv (.cons trv .nil)) rfl⟩, .inr ⟨rfl, _, rfl, tro⟩, trivial⟩) ?_)
    refine cw_loop (fun g st => ∃ (v105 : Int) (v104 : List Int), brooklaw4_Make_l1 p0 g v105 v104 = some r ∧ st = ⟨ls [(0, ar p0), (2, .ptr 0 0 0), (3, .own 1 0 v104.length), (4, i64 v105)], hl [(0, ⟨[[tx [], nl]], 2⟩), (1, ob (v104 : List Int))], 4⟩) FUEL ⟨0, (List.replicate 8 (0 : Int)), h, rfl⟩ ?_
    rintro g _ ⟨v105, v104, h, rfl⟩
    rcases g with _ | g1
    · rw [brooklaw4_Make_l1] at h; cases h
    rw [brooklaw4_Make_l1] at h
    refine cw_seq (cw_seq ?_)
    obtain ⟨v113, hq, h⟩ := bindE h
    refine cw_rl [(15, bo v113)] (D := [8, 9, 10, 11, 12, 13, 14, 15]) hnt rfl rfl (by
      rcases Bool.eq_false_or_eq_true ((decide (v105 < 8))) with hb112 | hb112
      · replace hq := condT hb112 hq
        replace hq := Option.some.inj hq
        subst hq
        exact ⟨_, _, x_mv (eI rfl) (k0 rfl) <| x_ci (eX (.val (.int .i64 v105)) rfl) (eX (.val (.int .i64 8)) rfl) rfl (k0 rfl) <| x_mv (eB rfl) (k0 rfl) <| x_mv (eI rfl) (k1 rfl rfl rfl (congrArg bo hb112)) <| x_mv (eA rfl) (k1 rfl rfl rfl (congrArg bo hb112)) <| x_lnA E38 (eX (ar p0) rfl) (k1 rfl rfl rfl (congrArg bo hb112)) <| x_ci (eX (.val (.int .i64 v105)) rfl) (eX (.val (.int .i64 (p0.length : Int))) rfl) rfl (k1 rfl rfl rfl (congrArg bo hb112)) <| x_pt rfl hb112 (eB rfl) (k0 rfl) <| lx_nil, ⟨rfl, trivial⟩⟩
      · replace hq := condF hb112 hq
        replace hq := Option.some.inj hq
        subst hq
        exact ⟨_, _, x_mv (eI rfl) (k0 rfl) <| x_ci (eX (.val (.int .i64 v105)) rfl) (eX (.val (.int .i64 8)) rfl) rfl (k0 rfl) <| x_mv (eB rfl) (k0 rfl) <| lx_off rfl rfl (congrArg bo hb112) rfl <| lx_off rfl rfl (congrArg bo hb112) rfl <| lx_off rfl rfl (congrArg bo hb112) rfl <| lx_off rfl rfl (congrArg bo hb112) rfl <| x_pf rfl hb112 (eB rfl) (k0 rfl) <| lx_nil, ⟨rfl, trivial⟩⟩) ?_
    refine cw_cond rfl (fun hb114 => ?_) (fun hb114 => ?_)
    · replace h := condT hb114 h
      refine cw_skip (cw_seq (cw_block ?_))
      obtain ⟨v115, hv115, h⟩ := bindE h
      obtain ⟨v116, hv116, h⟩ := bindE h
      refine cw_rg hnt rfl (x_mv (eO rfl) (k0 rfl) <| x_mv (eI rfl) (k0 rfl) <| x_mv (eA rfl) (k0 rfl) <| x_mv (eI rfl) (k0 rfl) <| x_ia E38 rfl (eX (ar p0) rfl) rfl hv115 (k0 rfl) <| x_ld L5 (eQ rfl) rfl (sX (u8 v115) rfl) (k0 rfl) <| x_cvUI U5 W3 (eU v115 rfl) (k0 rfl) <| x_io E54 rfl (eO rfl) rfl rfl (lgB hv116) (k0 rfl) <| x_stE (a' := (v115.toNat : Int)) L3 (eP rfl) rfl rfl (lgO hv116) rfl rfl (k0 rfl) <| lx_nil) (cw_blk ?_)
      obtain ⟨v117, hv117, h⟩ := bindE h
      refine cw_rg hnt rfl (x_mv (eI rfl) (k0 rfl) <| x_ai (eI rfl) (eI rfl) hv117 (k0 rfl) <| x_as (eI rfl) (k0 rfl) <| lx_nil) (cw_nil ?_)
      exact ⟨g1, _, Nat.lt_succ_self _, (to_ren (N := 0) (n' := 4) (L := [(0, ar p0), (2, .ptr 0 0 0), (3, .own 1 0 ((v104.set v105.toNat (v115.toNat : Int)).length)), (4, i64 v117)]) (H := [(0, ⟨[[tx [], nl]], 2⟩), (1, ob ((v104.set v105.toNat (v115.toNat : Int)) : List Int))]) (id) [0, 1] [] hn rfl rfl rfl fix0 (by decide) ⟨tra, (Tr.ptr rfl), (Tr.ownE rfl (by simp)), trv, trivial⟩ ⟨.inr ⟨rfl, _, rfl, TrO.cell (.cons trv (.cons trv .nil)) rfl⟩, .inr ⟨rfl, _, rfl, tro⟩, trivial⟩), v117, (v104.set v105.toNat (v115.toNat : Int)), h, rfl⟩
    · replace h := condF hb114 h
      refine cw_exit (cw_xc (cw_xt (cw_xb (cw_nil ?_))))
      exact ⟨_, (to_ren (N := 0) (n' := 12) (L := [(2, .ptr 0 0 0), (3, .own 1 0 v104.length)]) (H := [(0, ⟨[[tx [], nl]], 2⟩), (1, ob (v104 : List Int))]) (id) [0, 1] [] hn rfl rfl rfl fix0 (by decide) ⟨(Tr.ptr rfl), (Tr.own rfl), trivial⟩ ⟨.inr ⟨rfl, _, rfl, TrO.cell (.cons trv (.cons trv .nil)) rfl⟩, .inr ⟨rfl, _, rfl, tro⟩, trivial⟩), v104, h, rfl⟩
  · rintro _ ⟨v21, h, rfl⟩
    rw [brooklaw4_Make_k1] at h
    refine cw_seq ?_
    obtain ⟨v22, hv22, h⟩ := bindE h
    obtain ⟨v23, hv23, h⟩ := bindE h
    obtain ⟨v24, hv24, h⟩ := bindE h
    obtain ⟨v25, hv25, h⟩ := bindE h
    refine cw_rg hnt rfl (x_mv (eO rfl) (k0 rfl) <| x_io E54 rfl (eO rfl) rfl rfl (lgB hv22) (k0 rfl) <| x_ldE L3 (eP rfl) rfl (lgO hv22) (sX (i64 v22) rfl) (k0 rfl) <| x_ai (eI rfl) (eI rfl) hv23 (k0 rfl) <| x_pu (eF rfl) P19 (c_r1_Digits v23 v24 hv24) rfl (k0 rfl) <| x_cat (eT rfl) (eT rfl) hv25 (k0 rfl) <| x_as (eT rfl) (k0 rfl) <| lx_nil) (cw_seq ?_)
    obtain ⟨v26, hv26, h⟩ := bindE h
    refine cw_rg hnt rfl (x_mv (eT rfl) (k0 rfl) <| x_nw (eF rfl) P18 (c_brooklaw4_PersonT v25 v26 hv26) rfl (k0 rfl) <| x_al Z24 (k0 rfl) <| x_st L24 (eP rfl) rfl rfl rfl rfl (k0 rfl) <| lx_nil) (cw_seq (cw_seq ?_))
    obtain ⟨v27, hv27, h⟩ := bindE h
    obtain ⟨v28, hv28, h⟩ := bindE h
    refine cw_rg hnt rfl (x_mv (eO rfl) (k0 rfl) <| x_io E54 rfl (eO rfl) rfl rfl (lgB hv27) (k0 rfl) <| x_ldE L3 (eP rfl) rfl (lgO hv27) (sX (i64 v27) rfl) (k0 rfl) <| x_ai (eI rfl) (eI rfl) hv28 (k0 rfl) <| x_ci (eX (.val (.int .i64 v28)) rfl) (eX (.val (.int .i64 0)) rfl) rfl (k0 rfl) <| lx_nil) ?_
    refine cw_cut (fun st => ∃ (v35 : List T_AttrT), brooklaw4_Make_k2 v21 v25 v26 v35 = some r ∧ st = ⟨ls [(2, .ptr 0 0 0), (3, .own 1 0 v21.length), (5, tx v25), (6, .ptr 21 0 0)], hl [(0, ⟨[[tx [], nl]], 2⟩), (1, ob (v21 : List Int)), (21, ⟨[[tx v26.Dn, .own 44 0 v35.length]], 2⟩), (44, ob (v35 : List T_AttrT))], 47⟩) ?_ ?_
    · skip
      refine cw_cond rfl (fun hb92 => ?_) (fun hb92 => ?_)
      · replace h := condT hb92 h
        refine cw_seq ?_
        obtain ⟨v93, hv93, h⟩ := bindE h
        refine cw_rg hnt rfl (x_fp F24_1 (eP rfl) (k0 rfl) <| x_ld L22 (eP rfl) rfl (sX (.own 20 0 v26.Attrs.length) rfl) (k0 rfl) <| x_bsT ([k_inetOrgPerson] : List Str) E27 rfl rfl rfl (k0 rfl) <| x_io E22 rfl (eO rfl) rfl rfl (lgB hv93) (k0 rfl) <| x_fp F42_1 (eP rfl) (k0 rfl) <| x_stE (a' := (⟨v93.Typ, [k_inetOrgPerson]⟩ : T_AttrT)) L27 (eP rfl) rfl rfl (lgO hv93) rfl rfl (k0 rfl) <| lx_nil) (cw_to (to_ren (N := 0) (n' := 34) (L := [(2, .ptr 0 0 0), (3, .own 1 0 v21.length), (5, tx v25), (6, .ptr 21 0 0)]) (H := [(0, ⟨[[tx [], nl]], 2⟩), (1, ob (v21 : List Int)), (20, ob ((v26.Attrs.set 1 (⟨v93.Typ, [k_inetOrgPerson]⟩ : T_AttrT)) : List T_AttrT)), (21, ⟨[[tx v26.Dn, .own 20 0 ((v26.Attrs.set 1 (⟨v93.Typ, [k_inetOrgPerson]⟩ : T_AttrT)).length)]], 2⟩)]) (id) [0, 1, 20, 21] [] hn rfl rfl rfl fix0 (by decide) ⟨(Tr.ptr rfl), (Tr.own rfl), trv, (Tr.ptr rfl), trivial⟩ ⟨.inr ⟨rfl, _, rfl, TrO.cell (.cons trv (.cons trv .nil)) rfl⟩, .inr ⟨rfl, _, rfl, tro⟩, .inr ⟨rfl, _, rfl, tro⟩, .inr ⟨rfl, _, rfl, TrO.cell (.cons trv (.cons (Tr.ownE rfl (by simp)) .nil)) rfl⟩, trivial⟩) ?_)
        obtain ⟨v94, hv94, h⟩ := bindE h
        obtain ⟨v95, hv95, h⟩ := bindE h
        obtain ⟨v96, hv96, h⟩ := bindE h
        obtain ⟨v97, hv97, h⟩ := bindE h
        refine cw_ra [20, 21] [(9, [9])] [(0, [9]), (1, [9])] [10, 11, 12] hnt rfl Tryz.mixed (by kernel_rfl) rfl (by decide) (x_fp F24_1 (eP rfl) (k0 rfl) <| x_ld L22 (eP rfl) rfl (sX (.own 20 0 ((v26.Attrs.set 1 (⟨v93.Typ, [k_inetOrgPerson]⟩ : T_AttrT)).length)) rfl) (k0 rfl) <| x_mv (eO rfl) (k0 rfl) <| x_io E54 rfl (eO rfl) rfl rfl (lgB hv94) (k0 rfl) <| x_ldE L3 (eP rfl) rfl (lgO hv94) (sX (i64 v94) rfl) (k0 rfl) <| x_pu (eF rfl) P19 (c_r1_Digits v94 v95 hv95) rfl (k0 rfl) <| x_cat (eT rfl) (eT rfl) hv96 (k0 rfl) <| x_bsT ([v96] : List Str) E27 rfl rfl rfl (k0 rfl) <| x_bd B42 (sX3 ([tx k_mail, .tst ([v96] : List Str)]) rfl) (k0 rfl) <| x_bsO ([(⟨k_mail, [v96]⟩ : T_AttrT)] : List T_AttrT) E22 rfl (sX2 [[tx k_mail, .tst ([v96] : List Str)]] rfl) rfl rfl (wkl (wkc (Wk.refl _) (wkc (Wk.refl _) wkn0)) wkn) (k0 rfl) <| x_apO (l1 := (v26.Attrs.set 1 (⟨v93.Typ, [k_inetOrgPerson]⟩ : T_AttrT))) E22 rfl rfl rfl (vlO' (l := (([(⟨k_mail, [v96]⟩ : T_AttrT)] : List T_AttrT) : List T_AttrT)) rfl rfl rfl) hv97 (k0 rfl) <| x_fp F24_1 (eP rfl) (k0 rfl) <| x_st L22 (eP rfl) rfl rfl rfl rfl (k0 rfl) <| lx_nil) (cw_nil ?_)
        exact ⟨_, (to_ren (N := 0) (n' := 47) (L := [(2, .ptr 0 0 0), (3, .own 1 0 v21.length), (5, tx v25), (6, .ptr 21 0 0)]) (H := [(0, ⟨[[tx [], nl]], 2⟩), (1, ob (v21 : List Int)), (21, ⟨[[tx v26.Dn, .own 44 0 v97.length]], 2⟩), (44, ob (v97 : List T_AttrT))]) (id) [0, 1, 21, 44] [] hn rfl rfl rfl fix0 (by decide) ⟨(Tr.ptr rfl), (Tr.own rfl), trv, (Tr.ptr rfl), trivial⟩ ⟨.inr ⟨rfl, _, rfl, TrO.cell (.cons trv (.cons trv .nil)) rfl⟩, .inr ⟨rfl, _, rfl, tro⟩, .inr ⟨rfl, _, rfl, TrO.cell (.cons trv (.cons (Tr.own rfl) .nil)) rfl⟩, .inr ⟨rfl, _, rfl, tro⟩, trivial⟩), v97, h, rfl⟩
      · replace h := condF hb92 h
        refine cw_skip (cw_nil ?_)
        exact ⟨_, (to_ren (N := 0) (n' := 47) (L := [(2, .ptr 0 0 0), (3, .own 1 0 v21.length), (5, tx v25), (6, .ptr 21 0 0)]) (H := [(0, ⟨[[tx [], nl]], 2⟩), (1, ob (v21 : List Int)), (21, ⟨[[tx v26.Dn, .own 44 0 v26.Attrs.length]], 2⟩), (44, ob (v26.Attrs : List T_AttrT))]) (fun y => bif Nat.beq y 44 then 20 else y) [0, 1, 21, 44] [] hn rfl rfl rfl fix0 (by decide) ⟨(Tr.ptr rfl), (Tr.own rfl), trv, (Tr.ptr rfl), trivial⟩ ⟨.inr ⟨rfl, _, rfl, TrO.cell (.cons trv (.cons trv .nil)) rfl⟩, .inr ⟨rfl, _, rfl, tro⟩, .inr ⟨rfl, _, rfl, TrO.cell (.cons trv (.cons (Tr.own rfl) .nil)) rfl⟩, .inr ⟨rfl, _, rfl, tro⟩, trivial⟩), v26.Attrs, h, rfl⟩
    · rintro _ ⟨v35, h, rfl⟩
      rw [brooklaw4_Make_k2] at h
      refine cw_seq (cw_seq ?_)
      obtain ⟨v36, hv36, h⟩ := bindE h
      obtain ⟨v37, hv37, h⟩ := bindE h
      refine cw_rg hnt rfl (x_mv (eO rfl) (k0 rfl) <| x_io E54 rfl (eO rfl) rfl rfl (lgB hv36) (k0 rfl) <| x_ldE L3 (eP rfl) rfl (lgO hv36) (sX (i64 v36) rfl) (k0 rfl) <| x_ai (eI rfl) (eI rfl) hv37 (k0 rfl) <| x_ci (eX (.val (.int .i64 v37)) rfl) (eX (.val (.int .i64 1)) rfl) rfl (k0 rfl) <| lx_nil) ?_
      refine cw_cut (fun st => ∃ (v44 : List T_AttrT), brooklaw4_Make_k3 v21 v25 v26 v44 = some r ∧ st = ⟨ls [(2, .ptr 0 0 0), (3, .own 1 0 v21.length), (5, tx v25), (6, .ptr 21 0 0)], hl [(0, ⟨[[tx [], nl]], 2⟩), (1, ob (v21 : List Int)), (21, ⟨[[tx v26.Dn, .own 63 0 v44.length]], 2⟩), (63, ob (v44 : List T_AttrT))], 66⟩) ?_ ?_
      · skip
        refine cw_cond rfl (fun hb86 => ?_) (fun hb86 => ?_)
        · replace h := condT hb86 h
          obtain ⟨v87, hv87, h⟩ := bindE h
          obtain ⟨v88, hv88, h⟩ := bindE h
          obtain ⟨v89, hv89, h⟩ := bindE h
          obtain ⟨v90, hv90, h⟩ := bindE h
          obtain ⟨v91, hv91, h⟩ := bindE h
          refine cw_ra [44, 21] [(10, [10])] [(0, [10]), (1, [10])] [11, 12, 13] hnt rfl Tryz.mixed (by kernel_rfl) rfl (by decide) (x_fp F24_1 (eP rfl) (k0 rfl) <| x_ld L22 (eP rfl) rfl (sX (.own 44 0 v35.length) rfl) (k0 rfl) <| x_mv (eO rfl) (k0 rfl) <| x_io E54 rfl (eO rfl) rfl rfl (lgB hv87) (k0 rfl) <| x_ldE L3 (eP rfl) rfl (lgO hv87) (sX (i64 v87) rfl) (k0 rfl) <| x_ai (eI rfl) (eI rfl) hv88 (k0 rfl) <| x_pu (eF rfl) P19 (c_r1_Digits v88 v89 hv89) rfl (k0 rfl) <| x_cat (eT rfl) (eT rfl) hv90 (k0 rfl) <| x_bsT ([v90, k_e] : List Str) E27 rfl rfl rfl (k0 rfl) <| x_bd B42 (sX3 ([tx k_Description, .tst ([v90, k_e] : List Str)]) rfl) (k0 rfl) <| x_bsO ([(⟨k_Description, [v90, k_e]⟩ : T_AttrT)] : List T_AttrT) E22 rfl (sX2 [[tx k_Description, .tst ([v90, k_e] : List Str)]] rfl) rfl rfl (wkl (wkc (Wk.refl _) (wkc (Wk.refl _) wkn0)) wkn) (k0 rfl) <| x_apO (l1 := v35) E22 rfl rfl rfl (vlO' (l := (([(⟨k_Description, [v90, k_e]⟩ : T_AttrT)] : List T_AttrT) : List T_AttrT)) rfl rfl rfl) hv91 (k0 rfl) <| x_fp F24_1 (eP rfl) (k0 rfl) <| x_st L22 (eP rfl) rfl rfl rfl rfl (k0 rfl) <| lx_nil) (cw_nil ?_)
          exact ⟨_, (to_ren (N := 0) (n' := 66) (L := [(2, .ptr 0 0 0), (3, .own 1 0 v21.length), (5, tx v25), (6, .ptr 21 0 0)]) (H := [(0, ⟨[[tx [], nl]], 2⟩), (1, ob (v21 : List Int)), (21, ⟨[[tx v26.Dn, .own 63 0 v91.length]], 2⟩), (63, ob (v91 : List T_AttrT))]) (id) [0, 1, 21, 63] [] hn rfl rfl rfl fix0 (by decide) ⟨(Tr.ptr rfl), (Tr.own rfl), trv, (Tr.ptr rfl), trivial⟩ ⟨.inr ⟨rfl, _, rfl, TrO.cell (.cons trv (.cons trv .nil)) rfl⟩, .inr ⟨rfl, _, rfl, tro⟩, .inr ⟨rfl, _, rfl, TrO.cell (.cons trv (.cons (Tr.own rfl) .nil)) rfl⟩, .inr ⟨rfl, _, rfl, tro⟩, trivial⟩), v91, h, rfl⟩
        · replace h := condF hb86 h
          refine cw_skip (cw_nil ?_)
          exact ⟨_, (to_ren (N := 0) (n' := 66) (L := [(2, .ptr 0 0 0), (3, .own 1 0 v21.length), (5, tx v25), (6, .ptr 21 0 0)]) (H := [(0, ⟨[[tx [], nl]], 2⟩), (1, ob (v21 : List Int)), (21, ⟨[[tx v26.Dn, .own 63 0 v35.length]], 2⟩), (63, ob (v35 : List T_AttrT))]) (fun y => bif Nat.beq y 63 then 44 else y) [0, 1, 21, 63] [] hn rfl rfl rfl fix0 (by decide) ⟨(Tr.ptr rfl), (Tr.own rfl), trv, (Tr.ptr rfl), trivial⟩ ⟨.inr ⟨rfl, _, rfl, TrO.cell (.cons trv (.cons trv .nil)) rfl⟩, .inr ⟨rfl, _, rfl, tro⟩, .inr ⟨rfl, _, rfl, TrO.cell (.cons trv (.cons (Tr.own rfl) .nil)) rfl⟩, .inr ⟨rfl, _, rfl, tro⟩, trivial⟩), v35, h, rfl⟩
      · rintro _ ⟨v44, h, rfl⟩
        rw [brooklaw4_Make_k3] at h
        refine cw_seq (cw_seq ?_)
        obtain ⟨v45, hv45, h⟩ := bindE h
        obtain ⟨v46, hv46, h⟩ := bindE h
        refine cw_rg hnt rfl (x_mv (eO rfl) (k0 rfl) <| x_io E54 rfl (eO rfl) rfl rfl (lgB hv45) (k0 rfl) <| x_ldE L3 (eP rfl) rfl (lgO hv45) (sX (i64 v45) rfl) (k0 rfl) <| x_ai (eI rfl) (eI rfl) hv46 (k0 rfl) <| x_ci (eX (.val (.int .i64 v46)) rfl) (eX (.val (.int .i64 0)) rfl) rfl (k0 rfl) <| lx_nil) ?_
        refine cw_cut (fun st => ∃ (v59 : List T_Attr), brooklaw4_Make_k4 v21 v25 v26 v59 = some r ∧ st = ⟨ls [(2, .ptr 0 0 0), (3, .own 1 0 v21.length), (5, tx v25), (6, .ptr 21 0 0)], hl [(0, ⟨[[tx [], nl]], 2⟩), (1, ob (v21 : List Int)), (21, ⟨[[tx v26.Dn, .own 101 0 v59.length]], 2⟩), (101, ob (v59 : List T_Attr))], 104⟩) ?_ ?_
        · skip
          refine cw_cond rfl (fun hb74 => ?_) (fun hb74 => ?_)
          · replace h := condT hb74 h
            refine cw_seq ?_
            obtain ⟨v75, hv75, h⟩ := bindE h
            obtain ⟨v76, hv76, h⟩ := bindE h
            obtain ⟨v77, hv77, h⟩ := bindE h
            refine cw_ra [63] [] [] [9, 10, 11] hnt rfl Tryz.mixed (by kernel_rfl) rfl (by decide) (x_fp F24_1 (eP rfl) (k0 rfl) <| x_ld L22 (eP rfl) rfl (sX (.own 63 0 v44.length) rfl) (k0 rfl) <| x_fp F24_1 (eP rfl) (k0 rfl) <| x_ld L22 (eP rfl) rfl (sX (.own 63 0 v44.length) rfl) (k0 rfl) <| x_io E22 rfl (eO rfl) rfl rfl (lgB hv75) (k0 rfl) <| x_fp F42_1 (eP rfl) (k0 rfl) <| x_ldE L27 (eP rfl) rfl (lgO hv75) (sX (.tst v75.Vals) rfl) (k0 rfl) <| x_bsA ([k_posix] : List Str) E27 rfl rfl (k0 rfl) <| x_apK E27 (eX (.tst v75.Vals) rfl) (vlA' (l := ([k_posix] : List Str)) rfl rfl) rfl hv76 (k0 rfl) <| x_io E22 rfl (eO rfl) rfl rfl (lgB hv77) (k0 rfl) <| x_fp F42_1 (eP rfl) (k0 rfl) <| x_stEW (l := v44) (a := v77) (b := (⟨(T_AttrT.w v77).Typ, v76⟩ : T_Attr)) T_AttrT.w wA rfl L27 (eP rfl) rfl rfl (lgO hv77) (wkc (Wk.refl _) (wkc (Wk.refl _) wkn0)) rfl (k0 rfl) <| lx_nil) (cw_to (to_ren (N := 0) (n' := 83) (L := [(2, .ptr 0 0 0), (3, .own 1 0 v21.length), (5, tx v25), (6, .ptr 21 0 0)]) (H := [(0, ⟨[[tx [], nl]], 2⟩), (1, ob (v21 : List Int)), (21, ⟨[[tx v26.Dn, .own 63 0 (((v44.map T_AttrT.w).set 1 (⟨(T_AttrT.w v77).Typ, v76⟩ : T_Attr)).length)]], 2⟩), (63, ob (((v44.map T_AttrT.w).set 1 (⟨(T_AttrT.w v77).Typ, v76⟩ : T_Attr)) : List T_Attr))]) (id) [0, 1, 21, 63] [] hn rfl rfl rfl fix0 (by decide) ⟨(Tr.ptr rfl), (Tr.own rfl), trv, (Tr.ptr rfl), trivial⟩ ⟨.inr ⟨rfl, _, rfl, TrO.cell (.cons trv (.cons trv .nil)) rfl⟩, .inr ⟨rfl, _, rfl, tro⟩, .inr ⟨rfl, _, rfl, TrO.cell (.cons trv (.cons (Tr.ownE rfl (by simp)) .nil)) rfl⟩, .inr ⟨rfl, _, rfl, tro⟩, trivial⟩) ?_)
            obtain ⟨v78, hv78, h⟩ := bindE h
            obtain ⟨v79, hv79, h⟩ := bindE h
            obtain ⟨v80, hv80, h⟩ := bindE h
            obtain ⟨v81, hv81, h⟩ := bindE h
            obtain ⟨v82, hv82, h⟩ := bindE h
            obtain ⟨v83, hv83, h⟩ := bindE h
            obtain ⟨v84, hv84, h⟩ := bindE h
            obtain ⟨v85, hv85, h⟩ := bindE h
            refine cw_ra [63, 21] [(17, [17])] [(0, [17]), (1, [17])] [18, 19, 20] hnt rfl Tryz.mixed (by kernel_rfl) rfl (by decide) (x_fp F24_1 (eP rfl) (k0 rfl) <| x_ld L22 (eP rfl) rfl (sX (.own 63 0 (((v44.map T_AttrT.w).set 1 (⟨(T_AttrT.w v77).Typ, v76⟩ : T_Attr)).length)) rfl) (k0 rfl) <| x_mv (eO rfl) (k0 rfl) <| x_io E54 rfl (eO rfl) rfl rfl (lgB hv78) (k0 rfl) <| x_ldE L3 (eP rfl) rfl (lgO hv78) (sX (i64 v78) rfl) (k0 rfl) <| x_ai (eI rfl) (eI rfl) hv79 (k0 rfl) <| x_pu (eF rfl) P19 (c_r1_Digits v79 v80 hv80) rfl (k0 rfl) <| x_cat (eT rfl) (eT rfl) hv81 (k0 rfl) <| x_bsA ([v81] : List Str) E27 rfl rfl (k0 rfl) <| x_bd B42 (sX3 ([tx k_uid, ar ([v81] : List Str)]) rfl) (k0 rfl) <| x_mv (eO rfl) (k0 rfl) <| x_io E54 rfl (eO rfl) rfl rfl (lgB hv82) (k0 rfl) <| x_ldE L3 (eP rfl) rfl (lgO hv82) (sX (i64 v82) rfl) (k0 rfl) <| x_ai (eI rfl) (eI rfl) hv83 (k0 rfl) <| x_pu (eF rfl) P19 (c_r1_Digits v83 v84 hv84) rfl (k0 rfl) <| x_bsA ([v84] : List Str) E27 rfl rfl (k0 rfl) <| x_bd B42 (sX3 ([tx k_uidNumber, ar ([v84] : List Str)]) rfl) (k0 rfl) <| x_bsO ([(⟨k_uid, [v81]⟩ : T_Attr), (⟨k_uidNumber, [v84]⟩ : T_Attr)] : List T_Attr) E22 rfl (sX2 [[tx k_uid, ar ([v81] : List Str)], [tx k_uidNumber, ar ([v84] : List Str)]] rfl) rfl rfl (wkl (wkc (Wk.refl _) (wkc (Wk.refl _) wkn0)) (wkl (wkc (Wk.refl _) (wkc (Wk.refl _) wkn0)) wkn)) (k0 rfl) <| x_apO (l1 := ((v44.map T_AttrT.w).set 1 (⟨(T_AttrT.w v77).Typ, v76⟩ : T_Attr))) E22 rfl rfl rfl (vlO' (l := (([(⟨k_uid, [v81]⟩ : T_Attr), (⟨k_uidNumber, [v84]⟩ : T_Attr)] : List T_Attr) : List T_Attr)) rfl rfl rfl) hv85 (k0 rfl) <| x_fp F24_1 (eP rfl) (k0 rfl) <| x_st L22 (eP rfl) rfl rfl rfl rfl (k0 rfl) <| lx_nil) (cw_nil ?_)
            exact ⟨_, (to_ren (N := 0) (n' := 104) (L := [(2, .ptr 0 0 0), (3, .own 1 0 v21.length), (5, tx v25), (6, .ptr 21 0 0)]) (H := [(0, ⟨[[tx [], nl]], 2⟩), (1, ob (v21 : List Int)), (21, ⟨[[tx v26.Dn, .own 101 0 v85.length]], 2⟩), (101, ob (v85 : List T_Attr))]) (id) [0, 1, 21, 101] [] hn rfl rfl rfl fix0 (by decide) ⟨(Tr.ptr rfl), (Tr.own rfl), trv, (Tr.ptr rfl), trivial⟩ ⟨.inr ⟨rfl, _, rfl, TrO.cell (.cons trv (.cons trv .nil)) rfl⟩, .inr ⟨rfl, _, rfl, tro⟩, .inr ⟨rfl, _, rfl, TrO.cell (.cons trv (.cons (Tr.own rfl) .nil)) rfl⟩, .inr ⟨rfl, _, rfl, tro⟩, trivial⟩), v85, h, rfl⟩
          · replace h := condF hb74 h
            refine cw_to (To.weakOb (i := 63) (q := ob v44) (q' := ob ((v44.map T_AttrT.w) : List T_Attr)) rfl (wkss_map T_AttrT.w wA _) rfl (ob_cells _)) (cw_skip (cw_nil ?_))
            exact ⟨_, (to_ren (N := 0) (n' := 104) (L := [(2, .ptr 0 0 0), (3, .own 1 0 v21.length), (5, tx v25), (6, .ptr 21 0 0)]) (H := [(0, ⟨[[tx [], nl]], 2⟩), (1, ob (v21 : List Int)), (21, ⟨[[tx v26.Dn, .own 101 0 ((v44.map T_AttrT.w).length)]], 2⟩), (101, ob ((v44.map T_AttrT.w) : List T_Attr))]) (fun y => bif Nat.beq y 101 then 63 else y) [0, 1, 21, 101] [] hn rfl rfl rfl fix0 (by decide) ⟨(Tr.ptr rfl), (Tr.own rfl), trv, (Tr.ptr rfl), trivial⟩ ⟨.inr ⟨rfl, _, rfl, TrO.cell (.cons trv (.cons trv .nil)) rfl⟩, .inr ⟨rfl, _, rfl, tro⟩, .inr ⟨rfl, _, rfl, TrO.cell (.cons trv (.cons (Tr.ownE rfl (by simp)) .nil)) rfl⟩, .inr ⟨rfl, _, rfl, tro⟩, trivial⟩), (v44.map T_AttrT.w), h, rfl⟩
        · rintro _ ⟨v59, h, rfl⟩
          rw [brooklaw4_Make_k4] at h
          refine cw_seq (cw_seq ?_)
          obtain ⟨v60, hv60, h⟩ := bindE h
          obtain ⟨v61, hv61, h⟩ := bindE h
          refine cw_rg hnt rfl (x_mv (eO rfl) (k0 rfl) <| x_io E54 rfl (eO rfl) rfl rfl (lgB hv60) (k0 rfl) <| x_ldE L3 (eP rfl) rfl (lgO hv60) (sX (i64 v60) rfl) (k0 rfl) <| x_ai (eI rfl) (eI rfl) hv61 (k0 rfl) <| x_ci (eX (.val (.int .i64 v61)) rfl) (eX (.val (.int .i64 1)) rfl) rfl (k0 rfl) <| lx_nil) ?_
          refine cw_cut (fun st => ∃ (v64 : List T_Attr), brooklaw4_Make_k5 v21 v25 v26 v64 = some r ∧ st = ⟨ls [(2, .ptr 0 0 0), (3, .own 1 0 v21.length), (5, tx v25), (6, .ptr 21 0 0)], hl [(0, ⟨[[tx [], nl]], 2⟩), (1, ob (v21 : List Int)), (21, ⟨[[tx v26.Dn, .own 114 0 v64.length]], 2⟩), (114, ob (v64 : List T_Attr))], 117⟩) ?_ ?_
          · skip
            refine cw_cond rfl (fun hb72 => ?_) (fun hb72 => ?_)
            · replace h := condT hb72 h
              obtain ⟨v73, hv73, h⟩ := bindE h
              refine cw_rg hnt rfl (x_fp F24_1 (eP rfl) (k0 rfl) <| x_ld L22 (eP rfl) rfl (sX (.own 101 0 v59.length) rfl) (k0 rfl) <| x_bsA ([k_secret] : List Str) E27 rfl rfl (k0 rfl) <| x_bd B42 (sX3 ([tx k_userPassword, ar ([k_secret] : List Str)]) rfl) (k0 rfl) <| x_bsO ([(⟨k_userPassword, [k_secret]⟩ : T_Attr)] : List T_Attr) E22 rfl (sX2 [[tx k_userPassword, ar ([k_secret] : List Str)]] rfl) rfl rfl (wkl (wkc (Wk.refl _) (wkc (Wk.refl _) wkn0)) wkn) (k0 rfl) <| x_apO (l1 := v59) E22 rfl rfl rfl (vlO' (l := (([(⟨k_userPassword, [k_secret]⟩ : T_Attr)] : List T_Attr) : List T_Attr)) rfl rfl rfl) hv73 (k0 rfl) <| x_fp F24_1 (eP rfl) (k0 rfl) <| x_st L22 (eP rfl) rfl rfl rfl rfl (k0 rfl) <| lx_nil) (cw_nil ?_)
              exact ⟨_, (to_ren (N := 0) (n' := 117) (L := [(2, .ptr 0 0 0), (3, .own 1 0 v21.length), (5, tx v25), (6, .ptr 21 0 0)]) (H := [(0, ⟨[[tx [], nl]], 2⟩), (1, ob (v21 : List Int)), (21, ⟨[[tx v26.Dn, .own 114 0 v73.length]], 2⟩), (114, ob (v73 : List T_Attr))]) (id) [0, 1, 21, 114] [] hn rfl rfl rfl fix0 (by decide) ⟨(Tr.ptr rfl), (Tr.own rfl), trv, (Tr.ptr rfl), trivial⟩ ⟨.inr ⟨rfl, _, rfl, TrO.cell (.cons trv (.cons trv .nil)) rfl⟩, .inr ⟨rfl, _, rfl, tro⟩, .inr ⟨rfl, _, rfl, TrO.cell (.cons trv (.cons (Tr.own rfl) .nil)) rfl⟩, .inr ⟨rfl, _, rfl, tro⟩, trivial⟩), v73, h, rfl⟩
            · replace h := condF hb72 h
              refine cw_skip (cw_nil ?_)
              exact ⟨_, (to_ren (N := 0) (n' := 117) (L := [(2, .ptr 0 0 0), (3, .own 1 0 v21.length), (5, tx v25), (6, .ptr 21 0 0)]) (H := [(0, ⟨[[tx [], nl]], 2⟩), (1, ob (v21 : List Int)), (21, ⟨[[tx v26.Dn, .own 114 0 v59.length]], 2⟩), (114, ob (v59 : List T_Attr))]) (fun y => bif Nat.beq y 114 then 101 else y) [0, 1, 21, 114] [] hn rfl rfl rfl fix0 (by decide) ⟨(Tr.ptr rfl), (Tr.own rfl), trv, (Tr.ptr rfl), trivial⟩ ⟨.inr ⟨rfl, _, rfl, TrO.cell (.cons trv (.cons trv .nil)) rfl⟩, .inr ⟨rfl, _, rfl, tro⟩, .inr ⟨rfl, _, rfl, TrO.cell (.cons trv (.cons (Tr.own rfl) .nil)) rfl⟩, .inr ⟨rfl, _, rfl, tro⟩, trivial⟩), v59, h, rfl⟩
          · rintro _ ⟨v64, h, rfl⟩
            rw [brooklaw4_Make_k5] at h
            refine cw_seq (cw_seq ?_)
            obtain ⟨v65, hv65, h⟩ := bindE h
            obtain ⟨v66, hv66, h⟩ := bindE h
            refine cw_rg hnt rfl (x_mv (eO rfl) (k0 rfl) <| x_io E54 rfl (eO rfl) rfl rfl (lgB hv65) (k0 rfl) <| x_ldE L3 (eP rfl) rfl (lgO hv65) (sX (i64 v65) rfl) (k0 rfl) <| x_ai (eI rfl) (eI rfl) hv66 (k0 rfl) <| lx_nil) (cw_block (cw_seq (cw_rg hnt rfl (x_ci (eX (.val (.int .i64 v66)) rfl) (eX (.val (.int .i64 0)) rfl) rfl (k0 rfl) <| x_as (eB rfl) (k0 rfl) <| lx_nil) ?_)))
            refine cw_cond rfl (fun hb67 => ?_) (fun hb67 => ?_)
            · replace h := condT hb67 h
              obtain ⟨v68, hv68, h⟩ := bindE h
              refine cw_rg hnt rfl (x_mv (eT rfl) (k0 rfl) <| x_cat (eT rfl) (eT rfl) hv68 (k0 rfl) <| x_fp F24_0 (eP rfl) (k0 rfl) <| x_st L9 (eP rfl) rfl rfl rfl rfl (k0 rfl) <| lx_nil) (cw_blk (cw_seq (cw_rg hnt rfl (x_ld L24 (eP rfl) rfl (sX (.agg [tx v68, .own 114 0 v64.length]) rfl) (k0 rfl) <| x_st L24 (eP rfl) rfl rfl rfl rfl (k0 rfl) <| lx_nil) (cw_to (to_fz 114 (L := [(2, .ptr 0 0 0)]) (H := [(0, ⟨[[tx v68, ar v64]], 2⟩)]) (o := ob (v64 : List T_Attr)) rfl ⟨Fz2.keep, trivial⟩ ⟨⟨rfl, .inr ⟨_, rfl, FzO.cell (fzc Fz2.keep (fzc fzO fzn)) (cellL rfl)⟩⟩, trivial⟩) (cw_ret (cw_rn ?_))))))
              cases h
              exact ⟨rfl, sub0⟩
            · replace h := condF hb67 h
              refine cw_seq (cw_rg hnt rfl (x_ci (eX (.val (.int .i64 v66)) rfl) (eX (.val (.int .i64 1)) rfl) rfl (k0 rfl) <| x_as (eB rfl) (k0 rfl) <| lx_nil) ?_)
              refine cw_cond rfl (fun hb69 => ?_) (fun hb69 => ?_)
              · replace h := condT hb69 h
                obtain ⟨v70, hv70, h⟩ := bindE h
                obtain ⟨v71, hv71, h⟩ := bindE h
                refine cw_rg hnt rfl (x_mv (eT rfl) (k0 rfl) <| x_cat (eT rfl) (eT rfl) hv70 (k0 rfl) <| x_cat (eT rfl) (eT rfl) hv71 (k0 rfl) <| x_fp F24_0 (eP rfl) (k0 rfl) <| x_st L9 (eP rfl) rfl rfl rfl rfl (k0 rfl) <| lx_nil) (cw_blk (cw_seq (cw_rg hnt rfl (x_ld L24 (eP rfl) rfl (sX (.agg [tx v71, .own 114 0 v64.length]) rfl) (k0 rfl) <| x_st L24 (eP rfl) rfl rfl rfl rfl (k0 rfl) <| lx_nil) (cw_to (to_fz 114 (L := [(2, .ptr 0 0 0)]) (H := [(0, ⟨[[tx v71, ar v64]], 2⟩)]) (o := ob (v64 : List T_Attr)) rfl ⟨Fz2.keep, trivial⟩ ⟨⟨rfl, .inr ⟨_, rfl, FzO.cell (fzc Fz2.keep (fzc fzO fzn)) (cellL rfl)⟩⟩, trivial⟩) (cw_ret (cw_rn ?_))))))
                cases h
                exact ⟨rfl, sub0⟩
              · replace h := condF hb69 h
                refine cw_skip (cw_blk (cw_seq (cw_rg hnt rfl (x_ld L24 (eP rfl) rfl (sX (.agg [tx v26.Dn, .own 114 0 v64.length]) rfl) (k0 rfl) <| x_st L24 (eP rfl) rfl rfl rfl rfl (k0 rfl) <| lx_nil) (cw_to (to_fz 114 (L := [(2, .ptr 0 0 0)]) (H := [(0, ⟨[[tx v26.Dn, ar v64]], 2⟩)]) (o := ob (v64 : List T_Attr)) rfl ⟨Fz2.keep, trivial⟩ ⟨⟨rfl, .inr ⟨_, rfl, FzO.cell (fzc Fz2.keep (fzc fzO fzn)) (cellL rfl)⟩⟩, trivial⟩) (cw_ret (cw_rn ?_))))))
                cases h
                exact ⟨rfl, sub0⟩

theorem c_brooklaw4_turned (p0 : T_Entry) (p1 : Int) (p2 : Int) (r : T_Entry) (h : s_brooklaw4_turned p0 p1 p2 = some r) : Pu Tryz.prog 17 [.agg (enc p0), i64 p1, i64 p2] (.agg (enc r)) := by
  refine ⟨(nfc nfe (nfc nfv (nfc nfv nfn))), nfe, fs_start _ _ Tryz.func17 rfl Tryz.ntmps17 Tryz.results17 rfl fun X hnt hn => ?_⟩
  rw [s_brooklaw4_turned] at h
  refine cw_seq (cw_rg hnt rfl (x_bx rfl (k0 rfl) <| x_al Z24 (k0 rfl) <| lx_nil) (cw_seq ?_))
  obtain ⟨v1, hv1, h⟩ := bindE h
  refine cw_rg hnt rfl (x_bsO ([] : List T_Attr) E22 rfl (sX2 [] rfl) rfl rfl wkn (k0 rfl) <| x_fp F24_1 (eP rfl) (k0 rfl) <| x_ld L22 (eP rfl) rfl (sX (ar p0.Attrs) rfl) (k0 rfl) <| x_apO (l1 := ([] : List T_Attr)) E22 rfl rfl rfl (vlA' (l := (p0.Attrs : List T_Attr)) rfl rfl) hv1 (k0 rfl) <| x_as (eO rfl) (k0 rfl) <| lx_nil) (cw_seq ?_)
  obtain ⟨v2, hv2, h⟩ := bindE h
  obtain ⟨v3, hv3, h⟩ := bindE h
  refine cw_rg hnt rfl (x_mv (eO rfl) (k0 rfl) <| x_mv (eI rfl) (k0 rfl) <| x_mv (eO rfl) (k0 rfl) <| x_ln (n := v1.length) E22 rfl (k0 rfl) <| x_ai (eI rfl) (eI rfl) hv2 (k0 rfl) <| x_io E22 rfl (eO rfl) rfl rfl (lgB hv3) (k0 rfl) <| x_as (eP rfl) (k0 rfl) <| lx_nil) (cw_seq (cw_seq ?_))
  obtain ⟨v4, hv4, h⟩ := bindE h
  refine cw_rg hnt rfl (x_mv (eI rfl) (k0 rfl) <| x_ai (eI rfl) (eI rfl) hv4 (k0 rfl) <| lx_nil) (cw_block (cw_seq (cw_rg hnt rfl (x_ci (eX (.val (.int .i64 v4)) rfl) (eX (.val (.int .i64 0)) rfl) rfl (k0 rfl) <| x_as (eB rfl) (k0 rfl) <| lx_nil) ?_)))
  refine cw_cond rfl (fun hb5 => ?_) (fun hb5 => ?_)
  · replace h := condT hb5 h
    refine cw_rg hnt rfl (x_mv (eP rfl) (k0 rfl) <| x_nc (eP rfl) (.inr ⟨_, _, _, rfl⟩) (k0 rfl) <| x_fp F42_0 (eP rfl) (k0 rfl) <| x_stE (a' := (⟨k_none, v3.Vals⟩ : T_Attr)) L9 (eP rfl) rfl rfl (lgO hv3) rfl rfl (k0 rfl) <| lx_nil) (cw_blk (cw_seq (cw_rg hnt rfl (x_mv (eO rfl) (k0 rfl) <| x_fp F24_1 (eP rfl) (k0 rfl) <| x_st L22 (eP rfl) rfl rfl rfl rfl (k0 rfl) <| lx_nil) (cw_seq (cw_rg hnt rfl (x_ld L24 (eP rfl) rfl (sX (.agg [tx p0.Dn, .own 5 0 v1.length]) rfl) (k0 rfl) <| x_st L24 (eP rfl) rfl rfl rfl rfl (k0 rfl) <| lx_nil) (cw_to (to_fz 5 (L := [(6, .ptr 1 0 0)]) (H := [(1, ⟨[[tx p0.Dn, ar (v1.set v2.toNat (⟨k_none, v3.Vals⟩ : T_Attr))]], 2⟩)]) (o := ob ((v1.set v2.toNat (⟨k_none, v3.Vals⟩ : T_Attr)) : List T_Attr)) rfl ⟨Fz2.keep, trivial⟩ ⟨⟨rfl, .inr ⟨_, rfl, FzO.cell (fzc Fz2.keep (fzc (fzOl (by simp)) fzn)) (cellL rfl)⟩⟩, trivial⟩) (cw_ret (cw_rn ?_))))))))
    cases h
    exact ⟨rfl, sub0⟩
  · replace h := condF hb5 h
    refine cw_seq (cw_rg hnt rfl (x_ci (eX (.val (.int .i64 v4)) rfl) (eX (.val (.int .i64 1)) rfl) rfl (k0 rfl) <| x_as (eB rfl) (k0 rfl) <| lx_nil) ?_)
    refine cw_cond rfl (fun hb6 => ?_) (fun hb6 => ?_)
    · replace h := condT hb6 h
      refine cw_rg hnt rfl (x_mv (eP rfl) (k0 rfl) <| x_nc (eP rfl) (.inr ⟨_, _, _, rfl⟩) (k0 rfl) <| x_fp F42_1 (eP rfl) (k0 rfl) <| x_stEN (l := v1) (a := v3) (b := (⟨v3.Typ, []⟩ : T_Attr)) L27 (eP rfl) rfl rfl (lgO hv3) (wkc (Wk.refl _) (wkc Wk.nil wkn0)) rfl (k0 rfl) <| lx_nil) (cw_blk (cw_seq (cw_rg hnt rfl (x_mv (eO rfl) (k0 rfl) <| x_fp F24_1 (eP rfl) (k0 rfl) <| x_st L22 (eP rfl) rfl rfl rfl rfl (k0 rfl) <| lx_nil) (cw_seq (cw_rg hnt rfl (x_ld L24 (eP rfl) rfl (sX (.agg [tx p0.Dn, .own 5 0 v1.length]) rfl) (k0 rfl) <| x_st L24 (eP rfl) rfl rfl rfl rfl (k0 rfl) <| lx_nil) (cw_to (to_fz 5 (L := [(6, .ptr 1 0 0)]) (H := [(1, ⟨[[tx p0.Dn, ar (v1.set v2.toNat (⟨v3.Typ, []⟩ : T_Attr))]], 2⟩)]) (o := ob ((v1.set v2.toNat (⟨v3.Typ, []⟩ : T_Attr)) : List T_Attr)) rfl ⟨Fz2.keep, trivial⟩ ⟨⟨rfl, .inr ⟨_, rfl, FzO.cell (fzc Fz2.keep (fzc (fzOl (by simp)) fzn)) (cellL rfl)⟩⟩, trivial⟩) (cw_ret (cw_rn ?_))))))))
      cases h
      exact ⟨rfl, sub0⟩
    · replace h := condF hb6 h
      refine cw_seq (cw_rg hnt rfl (x_ci (eX (.val (.int .i64 v4)) rfl) (eX (.val (.int .i64 2)) rfl) rfl (k0 rfl) <| x_as (eB rfl) (k0 rfl) <| lx_nil) ?_)
      refine cw_cond rfl (fun hb7 => ?_) (fun hb7 => ?_)
      · replace h := condT hb7 h
        obtain ⟨v8, hv8, h⟩ := bindE h
        obtain ⟨v9, hv9, h⟩ := bindE h
        obtain ⟨v10, hv10, h⟩ := bindE h
        refine cw_ra [5] [(1, [1]), (6, [1, 6]), (14, [6, 14])] [(0, [1, 6, 14]), (2, [1]), (3, [1]), (4, [1]), (5, [1]), (7, [1, 6]), (8, [1, 6]), (9, [1, 6]), (10, [1, 6]), (11, [1, 6]), (12, [1, 6]), (13, [1, 6])] [15, 16, 17] hnt rfl Tryz.mixed (by kernel_rfl) rfl (by decide) (x_mv (eP rfl) (k0 rfl) <| x_bsO ([] : List Str) E27 rfl (sX2 [] rfl) rfl rfl wkn (k0 rfl) <| x_mv (eP rfl) (k0 rfl) <| x_nc (eP rfl) (.inr ⟨_, _, _, rfl⟩) (k0 rfl) <| x_fp F42_1 (eP rfl) (k0 rfl) <| x_ldE L27 (eP rfl) rfl (lgO hv3) (sX (ar v3.Vals) rfl) (k0 rfl) <| x_apO (l1 := ([] : List Str)) E27 rfl rfl rfl (vlA' (l := (v3.Vals : List Str)) rfl rfl) hv8 (k0 rfl) <| x_mv (eP rfl) (k0 rfl) <| x_nc (eP rfl) (.inr ⟨_, _, _, rfl⟩) (k0 rfl) <| x_fp F42_1 (eP rfl) (k0 rfl) <| x_ldE L27 (eP rfl) rfl (lgO hv3) (sX (ar v3.Vals) rfl) (k0 rfl) <| x_ia E27 rfl (eX (ar v3.Vals) rfl) rfl hv9 (k0 rfl) <| x_ld L9 (eQ rfl) rfl (sX (tx v9) rfl) (k0 rfl) <| x_bsA ([v9] : List Str) E27 rfl rfl (k0 rfl) <| x_apOz (l1 := v8) E27 rfl rfl rfl (vlA' (l := ([v9] : List Str)) rfl rfl) hv10 (k0 rfl) <| x_nc (eP rfl) (.inr ⟨_, _, _, rfl⟩) (k0 rfl) <| x_fp F42_1 (eP rfl) (k0 rfl) <| x_stE (a' := (⟨v3.Typ, v10⟩ : T_Attr)) L27 (eP rfl) rfl rfl (lgO hv3) rfl rfl (k0 rfl) <| lx_nil) (cw_blk (cw_seq (cw_rg hnt rfl (x_mv (eO rfl) (k0 rfl) <| x_fp F24_1 (eP rfl) (k0 rfl) <| x_st L22 (eP rfl) rfl rfl rfl rfl (k0 rfl) <| lx_nil) (cw_seq (cw_rg hnt rfl (x_ld L24 (eP rfl) rfl (sX (.agg [tx p0.Dn, .own 5 0 v1.length]) rfl) (k0 rfl) <| x_st L24 (eP rfl) rfl rfl rfl rfl (k0 rfl) <| lx_nil) (cw_to (to_fz 5 (L := [(6, .ptr 1 0 0)]) (H := [(1, ⟨[[tx p0.Dn, ar (v1.set v2.toNat (⟨v3.Typ, v10⟩ : T_Attr))]], 2⟩)]) (o := ob ((v1.set v2.toNat (⟨v3.Typ, v10⟩ : T_Attr)) : List T_Attr)) rfl ⟨Fz2.keep, trivial⟩ ⟨⟨rfl, .inr ⟨_, rfl, FzO.cell (fzc Fz2.keep (fzc (fzOl (by simp)) fzn)) (cellL rfl)⟩⟩, trivial⟩) (cw_ret (cw_rn ?_))))))))
        cases h
        exact ⟨rfl, sub0⟩
      · replace h := condF hb7 h
        refine cw_seq (cw_rg hnt rfl (x_ci (eX (.val (.int .i64 v4)) rfl) (eX (.val (.int .i64 3)) rfl) rfl (k0 rfl) <| x_as (eB rfl) (k0 rfl) <| lx_nil) ?_)
        refine cw_cond rfl (fun hb11 => ?_) (fun hb11 => ?_)
        · replace h := condT hb11 h
          obtain ⟨v12, hv12, h⟩ := bindE h
          refine cw_rg hnt rfl (x_mv (eP rfl) (k0 rfl) <| x_bsO ([k_x2020] : List Str) E27 rfl (sX2 [[tx k_x2020]] rfl) rfl rfl (wkl (wkc (Wk.refl _) wkn0) wkn) (k0 rfl) <| x_mv (eP rfl) (k0 rfl) <| x_nc (eP rfl) (.inr ⟨_, _, _, rfl⟩) (k0 rfl) <| x_fp F42_1 (eP rfl) (k0 rfl) <| x_ldE L27 (eP rfl) rfl (lgO hv3) (sX (ar v3.Vals) rfl) (k0 rfl) <| x_apOz (l1 := ([k_x2020] : List Str)) E27 rfl rfl rfl (vlA' (l := (v3.Vals : List Str)) rfl rfl) hv12 (k0 rfl) <| x_nc (eP rfl) (.inr ⟨_, _, _, rfl⟩) (k0 rfl) <| x_fp F42_1 (eP rfl) (k0 rfl) <| x_stE (a' := (⟨v3.Typ, v12⟩ : T_Attr)) L27 (eP rfl) rfl rfl (lgO hv3) rfl rfl (k0 rfl) <| lx_nil) (cw_blk (cw_seq (cw_rg hnt rfl (x_mv (eO rfl) (k0 rfl) <| x_fp F24_1 (eP rfl) (k0 rfl) <| x_st L22 (eP rfl) rfl rfl rfl rfl (k0 rfl) <| lx_nil) (cw_seq (cw_rg hnt rfl (x_ld L24 (eP rfl) rfl (sX (.agg [tx p0.Dn, .own 5 0 v1.length]) rfl) (k0 rfl) <| x_st L24 (eP rfl) rfl rfl rfl rfl (k0 rfl) <| lx_nil) (cw_to (to_fz 5 (L := [(6, .ptr 1 0 0)]) (H := [(1, ⟨[[tx p0.Dn, ar (v1.set v2.toNat (⟨v3.Typ, v12⟩ : T_Attr))]], 2⟩)]) (o := ob ((v1.set v2.toNat (⟨v3.Typ, v12⟩ : T_Attr)) : List T_Attr)) rfl ⟨Fz2.keep, trivial⟩ ⟨⟨rfl, .inr ⟨_, rfl, FzO.cell (fzc Fz2.keep (fzc (fzOl (by simp)) fzn)) (cellL rfl)⟩⟩, trivial⟩) (cw_ret (cw_rn ?_))))))))
          cases h
          exact ⟨rfl, sub0⟩
        · replace h := condF hb11 h
          refine cw_seq (cw_rg hnt rfl (x_ci (eX (.val (.int .i64 v4)) rfl) (eX (.val (.int .i64 4)) rfl) rfl (k0 rfl) <| x_as (eB rfl) (k0 rfl) <| lx_nil) ?_)
          refine cw_cond rfl (fun hb13 => ?_) (fun hb13 => ?_)
          · replace h := condT hb13 h
            obtain ⟨v14, hv14, h⟩ := bindE h
            refine cw_rg hnt rfl (x_mv (eO rfl) (k0 rfl) <| x_mv (eP rfl) (k0 rfl) <| x_nc (eP rfl) (.inr ⟨_, _, _, rfl⟩) (k0 rfl) <| x_ldE L42 (eP rfl) rfl (lgO hv3) (sX (.agg [tx v3.Typ, ar v3.Vals]) rfl) (k0 rfl) <| x_bsA ([v3] : List T_Attr) E22 rfl rfl (k0 rfl) <| x_apO (l1 := v1) E22 rfl rfl rfl (vlA' (l := ([v3] : List T_Attr)) rfl rfl) hv14 (k0 rfl) <| x_as (eO rfl) (k0 rfl) <| lx_nil) (cw_blk (cw_seq (cw_rg hnt rfl (x_mv (eO rfl) (k0 rfl) <| x_fp F24_1 (eP rfl) (k0 rfl) <| x_st L22 (eP rfl) rfl rfl rfl rfl (k0 rfl) <| lx_nil) (cw_seq (cw_rg hnt rfl (x_ld L24 (eP rfl) rfl (sX (.agg [tx p0.Dn, .own 31 0 v14.length]) rfl) (k0 rfl) <| x_st L24 (eP rfl) rfl rfl rfl rfl (k0 rfl) <| lx_nil) (cw_to (to_fz 31 (L := [(6, .ptr 1 0 0)]) (H := [(1, ⟨[[tx p0.Dn, ar v14]], 2⟩)]) (o := ob (v14 : List T_Attr)) rfl ⟨Fz2.keep, trivial⟩ ⟨⟨rfl, .inr ⟨_, rfl, FzO.cell (fzc Fz2.keep (fzc fzO fzn)) (cellL rfl)⟩⟩, trivial⟩) (cw_ret (cw_rn ?_))))))))
            cases h
            exact ⟨rfl, sub0⟩
          · replace h := condF hb13 h
            refine cw_seq (cw_rg hnt rfl (x_ci (eX (.val (.int .i64 v4)) rfl) (eX (.val (.int .i64 5)) rfl) rfl (k0 rfl) <| x_as (eB rfl) (k0 rfl) <| lx_nil) ?_)
            refine cw_cond rfl (fun hb15 => ?_) (fun hb15 => ?_)
            · replace h := condT hb15 h
              obtain ⟨v16, hv16, h⟩ := bindE h
              obtain ⟨v17, hv17, h⟩ := bindE h
              obtain ⟨v18, hv18, h⟩ := bindE h
              obtain ⟨v19, hv19, h⟩ := bindE h
              obtain ⟨v20, hv20, h⟩ := bindE h
              obtain ⟨v21, hv21, h⟩ := bindE h
              refine cw_ra [5] [] [] [13, 14] hnt rfl Tryz.mixed (by kernel_rfl) rfl (by decide) (x_mv (eO rfl) (k0 rfl) <| x_mv (eI rfl) (k0 rfl) <| x_mv (eO rfl) (k0 rfl) <| x_ln (n := v1.length) E22 rfl (k0 rfl) <| x_ai (eI rfl) (eI rfl) hv16 (k0 rfl) <| x_slO (l := v1) E22 rfl (eO rfl) rfl rfl rfl hv17 (k0 rfl) <| x_mv (eO rfl) (k0 rfl) <| x_mv (eI rfl) (k0 rfl) <| x_mv (eO rfl) (k0 rfl) <| x_ln (n := v1.length) E22 rfl (k0 rfl) <| x_ai (eI rfl) (eI rfl) hv18 (k0 rfl) <| x_ai (eI rfl) (eI rfl) hv19 (k0 rfl) <| x_slO (l := v1) E22 rfl (eO rfl) rfl rfl rfl hv20 (k0 rfl) <| x_apP (l := v1) E22 rfl (eO rfl) rfl (eO rfl) rfl hv17 hv20 hv21 (k0 rfl) <| x_as (eO rfl) (k0 rfl) <| lx_nil) (cw_blk (cw_seq (cw_rg hnt rfl (x_mv (eO rfl) (k0 rfl) <| x_fp F24_1 (eP rfl) (k0 rfl) <| x_st L22 (eP rfl) rfl rfl rfl rfl (k0 rfl) <| lx_nil) (cw_seq (cw_rg hnt rfl (x_ld L24 (eP rfl) rfl (sX (.agg [tx p0.Dn, .own 41 0 v21.length]) rfl) (k0 rfl) <| x_st L24 (eP rfl) rfl rfl rfl rfl (k0 rfl) <| lx_nil) (cw_to (to_fz 41 (L := [(6, .ptr 1 0 0)]) (H := [(1, ⟨[[tx p0.Dn, ar v21]], 2⟩)]) (o := ob (v21 : List T_Attr)) rfl ⟨Fz2.keep, trivial⟩ ⟨⟨rfl, .inr ⟨_, rfl, FzO.cell (fzc Fz2.keep (fzc fzO fzn)) (cellL rfl)⟩⟩, trivial⟩) (cw_ret (cw_rn ?_))))))))
              cases h
              exact ⟨rfl, sub0⟩
            · replace h := condF hb15 h
              refine cw_seq (cw_rg hnt rfl (x_ci (eX (.val (.int .i64 v4)) rfl) (eX (.val (.int .i64 6)) rfl) rfl (k0 rfl) <| x_as (eB rfl) (k0 rfl) <| lx_nil) ?_)
              refine cw_cond rfl (fun hb22 => ?_) (fun hb22 => ?_)
              · replace h := condT hb22 h
                refine cw_rg hnt rfl (x_mv (eP rfl) (k0 rfl) <| x_nc (eP rfl) (.inr ⟨_, _, _, rfl⟩) (k0 rfl) <| x_fp F42_0 (eP rfl) (k0 rfl) <| x_stE (a' := (⟨k_ou, v3.Vals⟩ : T_Attr)) L9 (eP rfl) rfl rfl (lgO hv3) rfl rfl (k0 rfl) <| lx_nil) (cw_blk (cw_seq (cw_rg hnt rfl (x_mv (eO rfl) (k0 rfl) <| x_fp F24_1 (eP rfl) (k0 rfl) <| x_st L22 (eP rfl) rfl rfl rfl rfl (k0 rfl) <| lx_nil) (cw_seq (cw_rg hnt rfl (x_ld L24 (eP rfl) rfl (sX (.agg [tx p0.Dn, .own 5 0 v1.length]) rfl) (k0 rfl) <| x_st L24 (eP rfl) rfl rfl rfl rfl (k0 rfl) <| lx_nil) (cw_to (to_fz 5 (L := [(6, .ptr 1 0 0)]) (H := [(1, ⟨[[tx p0.Dn, ar (v1.set v2.toNat (⟨k_ou, v3.Vals⟩ : T_Attr))]], 2⟩)]) (o := ob ((v1.set v2.toNat (⟨k_ou, v3.Vals⟩ : T_Attr)) : List T_Attr)) rfl ⟨Fz2.keep, trivial⟩ ⟨⟨rfl, .inr ⟨_, rfl, FzO.cell (fzc Fz2.keep (fzc (fzOl (by simp)) fzn)) (cellL rfl)⟩⟩, trivial⟩) (cw_ret (cw_rn ?_))))))))
                cases h
                exact ⟨rfl, sub0⟩
              · replace h := condF hb22 h
                refine cw_seq (cw_rg hnt rfl (x_ci (eX (.val (.int .i64 v4)) rfl) (eX (.val (.int .i64 7)) rfl) rfl (k0 rfl) <| x_as (eB rfl) (k0 rfl) <| lx_nil) ?_)
                refine cw_cond rfl (fun hb23 => ?_) (fun hb23 => ?_)
                · replace h := condT hb23 h
                  obtain ⟨v24, hv24, h⟩ := bindE h
                  refine cw_rg hnt rfl (x_fp F24_0 (eP rfl) (k0 rfl) <| x_ld L9 (eP rfl) rfl (sX (tx p0.Dn) rfl) (k0 rfl) <| x_cat (eT rfl) (eT rfl) hv24 (k0 rfl) <| x_fp F24_0 (eP rfl) (k0 rfl) <| x_st L9 (eP rfl) rfl rfl rfl rfl (k0 rfl) <| lx_nil) (cw_blk (cw_seq (cw_rg hnt rfl (x_mv (eO rfl) (k0 rfl) <| x_fp F24_1 (eP rfl) (k0 rfl) <| x_st L22 (eP rfl) rfl rfl rfl rfl (k0 rfl) <| lx_nil) (cw_seq (cw_rg hnt rfl (x_ld L24 (eP rfl) rfl (sX (.agg [tx v24, .own 5 0 v1.length]) rfl) (k0 rfl) <| x_st L24 (eP rfl) rfl rfl rfl rfl (k0 rfl) <| lx_nil) (cw_to (to_fz 5 (L := [(6, .ptr 1 0 0)]) (H := [(1, ⟨[[tx v24, ar v1]], 2⟩)]) (o := ob (v1 : List T_Attr)) rfl ⟨Fz2.keep, trivial⟩ ⟨⟨rfl, .inr ⟨_, rfl, FzO.cell (fzc Fz2.keep (fzc fzO fzn)) (cellL rfl)⟩⟩, trivial⟩) (cw_ret (cw_rn ?_))))))))
                  cases h
                  exact ⟨rfl, sub0⟩
                · replace h := condF hb23 h
                  refine cw_seq (cw_rg hnt rfl (x_ci (eX (.val (.int .i64 v4)) rfl) (eX (.val (.int .i64 8)) rfl) rfl (k0 rfl) <| x_as (eB rfl) (k0 rfl) <| lx_nil) ?_)
                  refine cw_cond rfl (fun hb25 => ?_) (fun hb25 => ?_)
                  · replace h := condT hb25 h
                    obtain ⟨v26, hv26, h⟩ := bindE h
                    refine cw_rg hnt rfl (x_fp F24_0 (eP rfl) (k0 rfl) <| x_ld L9 (eP rfl) rfl (sX (tx p0.Dn) rfl) (k0 rfl) <| x_cat (eT rfl) (eT rfl) hv26 (k0 rfl) <| x_fp F24_0 (eP rfl) (k0 rfl) <| x_st L9 (eP rfl) rfl rfl rfl rfl (k0 rfl) <| lx_nil) (cw_blk (cw_seq (cw_rg hnt rfl (x_mv (eO rfl) (k0 rfl) <| x_fp F24_1 (eP rfl) (k0 rfl) <| x_st L22 (eP rfl) rfl rfl rfl rfl (k0 rfl) <| lx_nil) (cw_seq (cw_rg hnt rfl (x_ld L24 (eP rfl) rfl (sX (.agg [tx v26, .own 5 0 v1.length]) rfl) (k0 rfl) <| x_st L24 (eP rfl) rfl rfl rfl rfl (k0 rfl) <| lx_nil) (cw_to (to_fz 5 (L := [(6, .ptr 1 0 0)]) (H := [(1, ⟨[[tx v26, ar v1]], 2⟩)]) (o := ob (v1 : List T_Attr)) rfl ⟨Fz2.keep, trivial⟩ ⟨⟨rfl, .inr ⟨_, rfl, FzO.cell (fzc Fz2.keep (fzc fzO fzn)) (cellL rfl)⟩⟩, trivial⟩) (cw_ret (cw_rn ?_))))))))
                    cases h
                    exact ⟨rfl, sub0⟩
                  · replace h := condF hb25 h
                    refine cw_seq (cw_rg hnt rfl (x_ci (eX (.val (.int .i64 v4)) rfl) (eX (.val (.int .i64 9)) rfl) rfl (k0 rfl) <| x_as (eB rfl) (k0 rfl) <| lx_nil) ?_)
                    refine cw_cond rfl (fun hb27 => ?_) (fun hb27 => ?_)
                    · replace h := condT hb27 h
                      refine cw_rg hnt rfl (x_mv (eP rfl) (k0 rfl) <| x_bsA ([k_top] : List Str) E27 rfl rfl (k0 rfl) <| x_nc (eP rfl) (.inr ⟨_, _, _, rfl⟩) (k0 rfl) <| x_fp F42_1 (eP rfl) (k0 rfl) <| x_stE (a' := (⟨v3.Typ, [k_top]⟩ : T_Attr)) L27 (eP rfl) rfl rfl (lgO hv3) rfl rfl (k0 rfl) <| lx_nil) (cw_blk (cw_seq (cw_rg hnt rfl (x_mv (eO rfl) (k0 rfl) <| x_fp F24_1 (eP rfl) (k0 rfl) <| x_st L22 (eP rfl) rfl rfl rfl rfl (k0 rfl) <| lx_nil) (cw_seq (cw_rg hnt rfl (x_ld L24 (eP rfl) rfl (sX (.agg [tx p0.Dn, .own 5 0 v1.length]) rfl) (k0 rfl) <| x_st L24 (eP rfl) rfl rfl rfl rfl (k0 rfl) <| lx_nil) (cw_to (to_fz 5 (L := [(6, .ptr 1 0 0)]) (H := [(1, ⟨[[tx p0.Dn, ar (v1.set v2.toNat (⟨v3.Typ, [k_top]⟩ : T_Attr))]], 2⟩)]) (o := ob ((v1.set v2.toNat (⟨v3.Typ, [k_top]⟩ : T_Attr)) : List T_Attr)) rfl ⟨Fz2.keep, trivial⟩ ⟨⟨rfl, .inr ⟨_, rfl, FzO.cell (fzc Fz2.keep (fzc (fzOl (by simp)) fzn)) (cellL rfl)⟩⟩, trivial⟩) (cw_ret (cw_rn ?_))))))))
                      cases h
                      exact ⟨rfl, sub0⟩
                    · replace h := condF hb27 h
                      refine cw_seq (cw_rg hnt rfl (x_ci (eX (.val (.int .i64 v4)) rfl) (eX (.val (.int .i64 10)) rfl) rfl (k0 rfl) <| x_as (eB rfl) (k0 rfl) <| lx_nil) ?_)
                      refine cw_cond rfl (fun hb28 => ?_) (fun hb28 => ?_)
                      · replace h := condT hb28 h
                        refine cw_rg hnt rfl (x_mv (eP rfl) (k0 rfl) <| x_bsA ([k_12, k_13] : List Str) E27 rfl rfl (k0 rfl) <| x_nc (eP rfl) (.inr ⟨_, _, _, rfl⟩) (k0 rfl) <| x_fp F42_1 (eP rfl) (k0 rfl) <| x_stE (a' := (⟨v3.Typ, [k_12, k_13]⟩ : T_Attr)) L27 (eP rfl) rfl rfl (lgO hv3) rfl rfl (k0 rfl) <| lx_nil) (cw_blk (cw_seq (cw_rg hnt rfl (x_mv (eO rfl) (k0 rfl) <| x_fp F24_1 (eP rfl) (k0 rfl) <| x_st L22 (eP rfl) rfl rfl rfl rfl (k0 rfl) <| lx_nil) (cw_seq (cw_rg hnt rfl (x_ld L24 (eP rfl) rfl (sX (.agg [tx p0.Dn, .own 5 0 v1.length]) rfl) (k0 rfl) <| x_st L24 (eP rfl) rfl rfl rfl rfl (k0 rfl) <| lx_nil) (cw_to (to_fz 5 (L := [(6, .ptr 1 0 0)]) (H := [(1, ⟨[[tx p0.Dn, ar (v1.set v2.toNat (⟨v3.Typ, [k_12, k_13]⟩ : T_Attr))]], 2⟩)]) (o := ob ((v1.set v2.toNat (⟨v3.Typ, [k_12, k_13]⟩ : T_Attr)) : List T_Attr)) rfl ⟨Fz2.keep, trivial⟩ ⟨⟨rfl, .inr ⟨_, rfl, FzO.cell (fzc Fz2.keep (fzc (fzOl (by simp)) fzn)) (cellL rfl)⟩⟩, trivial⟩) (cw_ret (cw_rn ?_))))))))
                        cases h
                        exact ⟨rfl, sub0⟩
                      · replace h := condF hb28 h
                        refine cw_rg hnt rfl (x_mv (eP rfl) (k0 rfl) <| x_nc (eP rfl) (.inr ⟨_, _, _, rfl⟩) (k0 rfl) <| x_fp F42_0 (eP rfl) (k0 rfl) <| x_stE (a' := (⟨k_MEMBER, v3.Vals⟩ : T_Attr)) L9 (eP rfl) rfl rfl (lgO hv3) rfl rfl (k0 rfl) <| lx_nil) (cw_blk (cw_seq (cw_rg hnt rfl (x_mv (eO rfl) (k0 rfl) <| x_fp F24_1 (eP rfl) (k0 rfl) <| x_st L22 (eP rfl) rfl rfl rfl rfl (k0 rfl) <| lx_nil) (cw_seq (cw_rg hnt rfl (x_ld L24 (eP rfl) rfl (sX (.agg [tx p0.Dn, .own 5 0 v1.length]) rfl) (k0 rfl) <| x_st L24 (eP rfl) rfl rfl rfl rfl (k0 rfl) <| lx_nil) (cw_to (to_fz 5 (L := [(6, .ptr 1 0 0)]) (H := [(1, ⟨[[tx p0.Dn, ar (v1.set v2.toNat (⟨k_MEMBER, v3.Vals⟩ : T_Attr))]], 2⟩)]) (o := ob ((v1.set v2.toNat (⟨k_MEMBER, v3.Vals⟩ : T_Attr)) : List T_Attr)) rfl ⟨Fz2.keep, trivial⟩ ⟨⟨rfl, .inr ⟨_, rfl, FzO.cell (fzc Fz2.keep (fzc (fzOl (by simp)) fzn)) (cellL rfl)⟩⟩, trivial⟩) (cw_ret (cw_rn ?_))))))))
                        cases h
                        exact ⟨rfl, sub0⟩

theorem c_brooklaw4_SchemaMade (p0 : Str) (p1 : UInt8) (p2 : UInt8) (p3 : UInt8) (r : Bool) (h : s_brooklaw4_SchemaMade p0 p1 p2 p3 = some r) : Pu Tryz.prog 4 [ar p0, u8 p1, u8 p2, u8 p3] (bo r) := by
  refine ⟨(nfc nfa (nfc nfv (nfc nfv (nfc nfv nfn)))), nfv, fs_start _ _ Tryz.func4 rfl Tryz.ntmps4 Tryz.results4 rfl fun X hnt hn => ?_⟩
  rw [s_brooklaw4_SchemaMade] at h
  refine cw_seq (cw_rg hnt rfl (x_as (eB rfl) (k0 rfl) <| lx_nil) (cw_seq ?_))
  obtain ⟨v1, hv1, h⟩ := bindE h
  refine cw_rg hnt rfl (x_mv (eA rfl) (k0 rfl) <| x_pu (eF rfl) P16 (c_brooklaw4_Make p0 v1 hv1) rfl (k0 rfl) <| x_al Z24 (k0 rfl) <| x_st L24 (eP rfl) rfl rfl rfl rfl (k0 rfl) <| lx_nil) (cw_seq ?_)
  obtain ⟨v2, hv2, h⟩ := bindE h
  refine cw_rg hnt rfl (x_ld L24 (eP rfl) rfl (sX (.agg [tx v1.Dn, ar v1.Attrs]) rfl) (k0 rfl) <| x_mv (eU p1 rfl) (k0 rfl) <| x_cvUI U5 W3 (eU p1 rfl) (k0 rfl) <| x_mv (eU p2 rfl) (k0 rfl) <| x_cvUI U5 W3 (eU p2 rfl) (k0 rfl) <| x_pu (eF rfl) P17 (c_brooklaw4_turned v1 (p1.toNat : Int) (p2.toNat : Int) v2 hv2) rfl (k0 rfl) <| x_al Z24 (k0 rfl) <| x_st L24 (eP rfl) rfl rfl rfl rfl (k0 rfl) <| lx_nil) (cw_seq (cw_seq (cw_rg hnt rfl (x_fp F24_1 (eP rfl) (k0 rfl) <| x_ld L22 (eP rfl) rfl (sX (ar v2.Attrs) rfl) (k0 rfl) <| x_lnA E22 (eX (ar v2.Attrs) rfl) (k0 rfl) <| x_ci (eX (.val (.int .i64 (v2.Attrs.length : Int))) rfl) (eX (.val (.int .i64 0)) rfl) rfl (k0 rfl) <| lx_nil) ?_)))
  refine cw_cond rfl (fun hb3 => ?_) (fun hb3 => ?_)
  · replace h := condT hb3 h
    refine cw_seq ?_
    obtain ⟨v4, hv4, h⟩ := bindE h
    refine cw_rg hnt rfl (x_pu (eF rfl) P10 (c_brooklaw4_awake v4 hv4) rfl (k0 rfl) <| x_as (eB rfl) (k0 rfl) <| lx_nil) (cw_ret (cw_rc (cw_rn ?_)))
    cases h
    exact ⟨rfl, sub0⟩
  · replace h := condF hb3 h
    refine cw_skip (cw_seq (cw_seq (cw_rg hnt rfl (x_as (eI rfl) (k0 rfl) <| lx_nil) ?_)))
    refine cw_cut (fun st => brooklaw4_SchemaMade_k1 p2 p3 v1 v2 = some r ∧ st = ⟨ls [(2, u8 p2), (3, u8 p3), (9, .ptr 3 0 0), (10, .ptr 11 0 0)], hl [(3, ⟨[[tx v1.Dn, ar v1.Attrs]], 2⟩), (11, ⟨[[tx v2.Dn, ar v2.Attrs]], 2⟩)], 23⟩) ?_ ?_
    · skip
      refine cw_block (cw_to (to_ren (N := 0) (n' := 18) (L := [(2, u8 p2), (3, u8 p3), (9, .ptr 3 0 0), (10, .ptr 11 0 0), (11, i64 0)]) (H := [(3, ⟨[[tx v1.Dn, ar v1.Attrs]], 2⟩), (11, ⟨[[tx v2.Dn, ar v2.Attrs]], 2⟩)]) (id) [3, 11] [] hn rfl rfl rfl fix0 (by decide) ⟨trv, trv, (Tr.ptr rfl), (Tr.ptr rfl), trv, trivial⟩ ⟨.inr ⟨rfl, _, rfl, TrO.cell (.cons trv (.cons tra .nil)) rfl⟩, .inr ⟨rfl, _, rfl, TrO.cell (.cons trv (.cons tra .nil)) rfl⟩, trivial⟩) ?_)
      refine cw_loop (fun g st => ∃ (v55 : Int), brooklaw4_SchemaMade_l1 p2 p3 v1 v2 g v55 = some r ∧ st = ⟨ls [(2, u8 p2), (3, u8 p3), (9, .ptr 3 0 0), (10, .ptr 11 0 0), (11, i64 v55)], hl [(3, ⟨[[tx v1.Dn, ar v1.Attrs]], 2⟩), (11, ⟨[[tx v2.Dn, ar v2.Attrs]], 2⟩)], 18⟩) FUEL ⟨0, h, rfl⟩ ?_
      rintro g _ ⟨v55, h, rfl⟩
      rcases g with _ | g1
      · rw [brooklaw4_SchemaMade_l1] at h; cases h
      rw [brooklaw4_SchemaMade_l1] at h
      refine cw_seq (cw_seq (cw_rg hnt rfl (x_mv (eI rfl) (k0 rfl) <| x_fp F24_1 (eP rfl) (k0 rfl) <| x_ld L22 (eP rfl) rfl (sX (ar v2.Attrs) rfl) (k0 rfl) <| x_lnA E22 (eX (ar v2.Attrs) rfl) (k0 rfl) <| x_ci (eX (.val (.int .i64 v55)) rfl) (eX (.val (.int .i64 (v2.Attrs.length : Int))) rfl) rfl (k0 rfl) <| lx_nil) ?_))
      refine cw_cond rfl (fun hb65 => ?_) (fun hb65 => ?_)
      · replace h := condT hb65 h
        refine cw_skip (cw_seq (cw_block (cw_seq ?_)))
        obtain ⟨v66, hv66, h⟩ := bindE h
        refine cw_rg hnt rfl (x_fp F24_1 (eP rfl) (k0 rfl) <| x_ld L22 (eP rfl) rfl (sX (ar v2.Attrs) rfl) (k0 rfl) <| x_mv (eI rfl) (k0 rfl) <| x_ia E22 rfl (eX (ar v2.Attrs) rfl) rfl hv66 (k0 rfl) <| x_fq F42_1 (eQ rfl) (k0 rfl) <| x_ld L27 (eQ rfl) rfl (sX (ar v66.Vals) rfl) (k0 rfl) <| x_lnA E27 (eX (ar v66.Vals) rfl) (k0 rfl) <| x_ci (eX (.val (.int .i64 (v66.Vals.length : Int))) rfl) (eX (.val (.int .i64 0)) rfl) rfl (k0 rfl) <| lx_nil) ?_
        refine cw_cond rfl (fun hb67 => ?_) (fun hb67 => ?_)
        · replace h := condT hb67 h
          refine cw_seq ?_
          obtain ⟨v72, hq, h⟩ := bindE h
          refine cw_ral [(8, bo v72)] [] [] [] [3, 4, 5, 6, 7, 8] (D := [41, 42, 43, 44, 45, 46, 47, 48, 8]) hnt rfl rfl Tryz.mixed (by kernel_rfl) rfl (by decide) (by
            obtain ⟨v68, hv68, hq⟩ := bindE hq
            obtain ⟨v69, hv69, hq⟩ := bindE hq
            rcases Bool.eq_false_or_eq_true ((v68 == v69)) with hb70 | hb70
            · replace hq := condT hb70 hq
              obtain ⟨v71, hv71, hq⟩ := bindE hq
              replace hq := Option.some.inj hq
              subst hq
              exact ⟨_, _, x_ld L24 (eP rfl) rfl (sX (.agg [tx v2.Dn, ar v2.Attrs]) rfl) (k0 rfl) <| x_pu (eF rfl) P13 (c_schema_Check v2 v68 hv68) rfl (k0 rfl) <| x_ld L24 (eP rfl) rfl (sX (.agg [tx v2.Dn, ar v2.Attrs]) rfl) (k0 rfl) <| x_pu (eF rfl) P14 (c_r1_Check v2 v69 hv69) rfl (k0 rfl) <| x_ci (eX (.val (.int .i64 v68)) rfl) (eX (.val (.int .i64 v69)) rfl) rfl (k0 rfl) <| x_mv (eB rfl) (k0 rfl) <| x_pu (eF rfl) P10 (c_brooklaw4_awake v71 hv71) rfl (k1 rfl rfl rfl (congrArg bo hb70)) <| x_pt rfl hb70 (eB rfl) (k0 rfl) <| x_as (eB rfl) (k0 rfl) <| lx_nil, ⟨rfl, trivial⟩⟩
            · replace hq := condF hb70 hq
              replace hq := Option.some.inj hq
              subst hq
              exact ⟨_, _, x_ld L24 (eP rfl) rfl (sX (.agg [tx v2.Dn, ar v2.Attrs]) rfl) (k0 rfl) <| x_pu (eF rfl) P13 (c_schema_Check v2 v68 hv68) rfl (k0 rfl) <| x_ld L24 (eP rfl) rfl (sX (.agg [tx v2.Dn, ar v2.Attrs]) rfl) (k0 rfl) <| x_pu (eF rfl) P14 (c_r1_Check v2 v69 hv69) rfl (k0 rfl) <| x_ci (eX (.val (.int .i64 v68)) rfl) (eX (.val (.int .i64 v69)) rfl) rfl (k0 rfl) <| x_mv (eB rfl) (k0 rfl) <| lx_off rfl rfl (congrArg bo hb70) rfl <| x_pf rfl hb70 (eB rfl) (k0 rfl) <| x_as (eB rfl) (k0 rfl) <| lx_nil, ⟨rfl, trivial⟩⟩) ?_
          refine cw_ret (cw_rb (cw_rc (cw_rt (cw_rb (cw_rt (cw_rc (cw_rn ?_)))))))
          cases h
          exact ⟨rfl, sub0⟩
        · replace h := condF hb67 h
          refine cw_skip (cw_blk ?_)
          obtain ⟨v73, hv73, h⟩ := bindE h
          refine cw_rg hnt rfl (x_mv (eI rfl) (k0 rfl) <| x_ai (eI rfl) (eI rfl) hv73 (k0 rfl) <| x_as (eI rfl) (k0 rfl) <| lx_nil) (cw_nil ?_)
          exact ⟨g1, _, Nat.lt_succ_self _, (to_ren (N := 0) (n' := 18) (L := [(2, u8 p2), (3, u8 p3), (9, .ptr 3 0 0), (10, .ptr 11 0 0), (11, i64 v73)]) (H := [(3, ⟨[[tx v1.Dn, ar v1.Attrs]], 2⟩), (11, ⟨[[tx v2.Dn, ar v2.Attrs]], 2⟩)]) (id) [3, 11] [] hn rfl rfl rfl fix0 (by decide) ⟨trv, trv, (Tr.ptr rfl), (Tr.ptr rfl), trv, trivial⟩ ⟨.inr ⟨rfl, _, rfl, TrO.cell (.cons trv (.cons tra .nil)) rfl⟩, .inr ⟨rfl, _, rfl, TrO.cell (.cons trv (.cons tra .nil)) rfl⟩, trivial⟩), v73, h, rfl⟩
      · replace h := condF hb65 h
        refine cw_exit (cw_xc (cw_xt (cw_xb (cw_nil ?_))))
        exact ⟨_, (to_ren (N := 0) (n' := 23) (L := [(2, u8 p2), (3, u8 p3), (9, .ptr 3 0 0), (10, .ptr 11 0 0)]) (H := [(3, ⟨[[tx v1.Dn, ar v1.Attrs]], 2⟩), (11, ⟨[[tx v2.Dn, ar v2.Attrs]], 2⟩)]) (id) [3, 11] [] hn rfl rfl rfl fix0 (by decide) ⟨trv, trv, (Tr.ptr rfl), (Tr.ptr rfl), trivial⟩ ⟨.inr ⟨rfl, _, rfl, TrO.cell (.cons trv (.cons tra .nil)) rfl⟩, .inr ⟨rfl, _, rfl, TrO.cell (.cons trv (.cons tra .nil)) rfl⟩, trivial⟩), h, rfl⟩
    · rintro _ ⟨h, rfl⟩
      rw [brooklaw4_SchemaMade_k1] at h
      refine cw_seq ?_
      obtain ⟨v33, hv33, h⟩ := bindE h
      obtain ⟨v34, hv34, h⟩ := bindE h
      refine cw_rg hnt rfl (x_ld L24 (eP rfl) rfl (sX (.agg [tx v2.Dn, ar v2.Attrs]) rfl) (k0 rfl) <| x_mv (eU p3 rfl) (k0 rfl) <| x_cvUI U5 W3 (eU p3 rfl) (k0 rfl) <| x_mv (eU p2 rfl) (k0 rfl) <| x_cvUI U5 W3 (eU p2 rfl) (k0 rfl) <| x_ai (eI rfl) (eI rfl) hv33 (k0 rfl) <| x_pu (eF rfl) P17 (c_brooklaw4_turned v2 (p3.toNat : Int) v33 v34 hv34) rfl (k0 rfl) <| x_al Z24 (k0 rfl) <| x_st L24 (eP rfl) rfl rfl rfl rfl (k0 rfl) <| lx_nil) (cw_seq ?_)
      obtain ⟨v45, hq, h⟩ := bindE h
      refine cw_ral [(8, bo v45)] [] [] [] [3, 4, 5, 9, 10, 11, 12, 16, 17, 18, 19, 20, 21, 22] (D := [56, 57, 58, 59, 60, 61, 62, 63, 64, 65, 66, 67, 68, 69, 70, 71, 72, 73, 74, 75, 76, 77, 8]) hnt rfl rfl Tryz.mixed (by kernel_rfl) rfl (by decide) (by
        obtain ⟨v35, hv35, hq⟩ := bindE hq
        obtain ⟨v36, hv36, hq⟩ := bindE hq
        rcases Bool.eq_false_or_eq_true ((v35 == v36)) with hb37 | hb37
        · replace hq := condT hb37 hq
          obtain ⟨v38, hv38, hq⟩ := bindE hq
          obtain ⟨v39, hv39, hq⟩ := bindE hq
          rcases Bool.eq_false_or_eq_true ((v38 == v39)) with hb40 | hb40
          · replace hq := condT hb40 hq
            obtain ⟨v41, hv41, hq⟩ := bindE hq
            obtain ⟨v42, hv42, hq⟩ := bindE hq
            rcases Bool.eq_false_or_eq_true ((v41 == v42)) with hb43 | hb43
            · replace hq := condT hb43 hq
              obtain ⟨v44, hv44, hq⟩ := bindE hq
              replace hq := Option.some.inj hq
              subst hq
              exact ⟨_, _, x_ld L24 (eP rfl) rfl (sX (.agg [tx v1.Dn, ar v1.Attrs]) rfl) (k0 rfl) <| x_pu (eF rfl) P13 (c_schema_Check v1 v35 hv35) rfl (k0 rfl) <| x_ld L24 (eP rfl) rfl (sX (.agg [tx v1.Dn, ar v1.Attrs]) rfl) (k0 rfl) <| x_pu (eF rfl) P14 (c_r1_Check v1 v36 hv36) rfl (k0 rfl) <| x_ci (eX (.val (.int .i64 v35)) rfl) (eX (.val (.int .i64 v36)) rfl) rfl (k0 rfl) <| x_mv (eB rfl) (k0 rfl) <| x_ld L24 (eP rfl) rfl (sX (.agg [tx v2.Dn, ar v2.Attrs]) rfl) (k1 rfl rfl rfl (congrArg bo hb37)) <| x_pu (eF rfl) P13 (c_schema_Check v2 v38 hv38) rfl (k1 rfl rfl rfl (congrArg bo hb37)) <| x_ld L24 (eP rfl) rfl (sX (.agg [tx v2.Dn, ar v2.Attrs]) rfl) (k1 rfl rfl rfl (congrArg bo hb37)) <| x_pu (eF rfl) P14 (c_r1_Check v2 v39 hv39) rfl (k1 rfl rfl rfl (congrArg bo hb37)) <| x_ci (eX (.val (.int .i64 v38)) rfl) (eX (.val (.int .i64 v39)) rfl) rfl (k1 rfl rfl rfl (congrArg bo hb37)) <| x_pt rfl hb37 (eB rfl) (k0 rfl) <| x_mv (eB rfl) (k0 rfl) <| x_ld L24 (eP rfl) rfl (sX (.agg [tx v34.Dn, ar v34.Attrs]) rfl) (k1 rfl rfl rfl (congrArg bo hb40)) <| x_pu (eF rfl) P13 (c_schema_Check v34 v41 hv41) rfl (k1 rfl rfl rfl (congrArg bo hb40)) <| x_ld L24 (eP rfl) rfl (sX (.agg [tx v34.Dn, ar v34.Attrs]) rfl) (k1 rfl rfl rfl (congrArg bo hb40)) <| x_pu (eF rfl) P14 (c_r1_Check v34 v42 hv42) rfl (k1 rfl rfl rfl (congrArg bo hb40)) <| x_ci (eX (.val (.int .i64 v41)) rfl) (eX (.val (.int .i64 v42)) rfl) rfl (k1 rfl rfl rfl (congrArg bo hb40)) <| x_pt rfl hb40 (eB rfl) (k0 rfl) <| x_mv (eB rfl) (k0 rfl) <| x_pu (eF rfl) P10 (c_brooklaw4_awake v44 hv44) rfl (k1 rfl rfl rfl (congrArg bo hb43)) <| x_pt rfl hb43 (eB rfl) (k0 rfl) <| x_as (eB rfl) (k0 rfl) <| lx_nil, ⟨rfl, trivial⟩⟩
            · replace hq := condF hb43 hq
              replace hq := Option.some.inj hq
              subst hq
              exact ⟨_, _, x_ld L24 (eP rfl) rfl (sX (.agg [tx v1.Dn, ar v1.Attrs]) rfl) (k0 rfl) <| x_pu (eF rfl) P13 (c_schema_Check v1 v35 hv35) rfl (k0 rfl) <| x_ld L24 (eP rfl) rfl (sX (.agg [tx v1.Dn, ar v1.Attrs]) rfl) (k0 rfl) <| x_pu (eF rfl) P14 (c_r1_Check v1 v36 hv36) rfl (k0 rfl) <| x_ci (eX (.val (.int .i64 v35)) rfl) (eX (.val (.int .i64 v36)) rfl) rfl (k0 rfl) <| x_mv (eB rfl) (k0 rfl) <| x_ld L24 (eP rfl) rfl (sX (.agg [tx v2.Dn, ar v2.Attrs]) rfl) (k1 rfl rfl rfl (congrArg bo hb37)) <| x_pu (eF rfl) P13 (c_schema_Check v2 v38 hv38) rfl (k1 rfl rfl rfl (congrArg bo hb37)) <| x_ld L24 (eP rfl) rfl (sX (.agg [tx v2.Dn, ar v2.Attrs]) rfl) (k1 rfl rfl rfl (congrArg bo hb37)) <| x_pu (eF rfl) P14 (c_r1_Check v2 v39 hv39) rfl (k1 rfl rfl rfl (congrArg bo hb37)) <| x_ci (eX (.val (.int .i64 v38)) rfl) (eX (.val (.int .i64 v39)) rfl) rfl (k1 rfl rfl rfl (congrArg bo hb37)) <| x_pt rfl hb37 (eB rfl) (k0 rfl) <| x_mv (eB rfl) (k0 rfl) <| x_ld L24 (eP rfl) rfl (sX (.agg [tx v34.Dn, ar v34.Attrs]) rfl) (k1 rfl rfl rfl (congrArg bo hb40)) <| x_pu (eF rfl) P13 (c_schema_Check v34 v41 hv41) rfl (k1 rfl rfl rfl (congrArg bo hb40)) <| x_ld L24 (eP rfl) rfl (sX (.agg [tx v34.Dn, ar v34.Attrs]) rfl) (k1 rfl rfl rfl (congrArg bo hb40)) <| x_pu (eF rfl) P14 (c_r1_Check v34 v42 hv42) rfl (k1 rfl rfl rfl (congrArg bo hb40)) <| x_ci (eX (.val (.int .i64 v41)) rfl) (eX (.val (.int .i64 v42)) rfl) rfl (k1 rfl rfl rfl (congrArg bo hb40)) <| x_pt rfl hb40 (eB rfl) (k0 rfl) <| x_mv (eB rfl) (k0 rfl) <| lx_off rfl rfl (congrArg bo hb43) rfl <| x_pf rfl hb43 (eB rfl) (k0 rfl) <| x_as (eB rfl) (k0 rfl) <| lx_nil, ⟨rfl, trivial⟩⟩
          · replace hq := condF hb40 hq
            replace hq := Option.some.inj hq
            subst hq
            exact ⟨_, _, x_ld L24 (eP rfl) rfl (sX (.agg [tx v1.Dn, ar v1.Attrs]) rfl) (k0 rfl) <| x_pu (eF rfl) P13 (c_schema_Check v1 v35 hv35) rfl (k0 rfl) <| x_ld L24 (eP rfl) rfl (sX (.agg [tx v1.Dn, ar v1.Attrs]) rfl) (k0 rfl) <| x_pu (eF rfl) P14 (c_r1_Check v1 v36 hv36) rfl (k0 rfl) <| x_ci (eX (.val (.int .i64 v35)) rfl) (eX (.val (.int .i64 v36)) rfl) rfl (k0 rfl) <| x_mv (eB rfl) (k0 rfl) <| x_ld L24 (eP rfl) rfl (sX (.agg [tx v2.Dn, ar v2.Attrs]) rfl) (k1 rfl rfl rfl (congrArg bo hb37)) <| x_pu (eF rfl) P13 (c_schema_Check v2 v38 hv38) rfl (k1 rfl rfl rfl (congrArg bo hb37)) <| x_ld L24 (eP rfl) rfl (sX (.agg [tx v2.Dn, ar v2.Attrs]) rfl) (k1 rfl rfl rfl (congrArg bo hb37)) <| x_pu (eF rfl) P14 (c_r1_Check v2 v39 hv39) rfl (k1 rfl rfl rfl (congrArg bo hb37)) <| x_ci (eX (.val (.int .i64 v38)) rfl) (eX (.val (.int .i64 v39)) rfl) rfl (k1 rfl rfl rfl (congrArg bo hb37)) <| x_pt rfl hb37 (eB rfl) (k0 rfl) <| x_mv (eB rfl) (k0 rfl) <| lx_off rfl rfl (congrArg bo hb40) rfl <| lx_off rfl rfl (congrArg bo hb40) rfl <| lx_off rfl rfl (congrArg bo hb40) rfl <| lx_off rfl rfl (congrArg bo hb40) rfl <| lx_off rfl rfl (congrArg bo hb40) rfl <| x_pf rfl hb40 (eB rfl) (k0 rfl) <| x_mv (eB rfl) (k0 rfl) <| lx_off rfl rfl rfl rfl <| x_pf rfl rfl (eB rfl) (k0 rfl) <| x_as (eB rfl) (k0 rfl) <| lx_nil, ⟨rfl, trivial⟩⟩
        · replace hq := condF hb37 hq
          replace hq := Option.some.inj hq
          subst hq
          exact ⟨_, _, x_ld L24 (eP rfl) rfl (sX (.agg [tx v1.Dn, ar v1.Attrs]) rfl) (k0 rfl) <| x_pu (eF rfl) P13 (c_schema_Check v1 v35 hv35) rfl (k0 rfl) <| x_ld L24 (eP rfl) rfl (sX (.agg [tx v1.Dn, ar v1.Attrs]) rfl) (k0 rfl) <| x_pu (eF rfl) P14 (c_r1_Check v1 v36 hv36) rfl (k0 rfl) <| x_ci (eX (.val (.int .i64 v35)) rfl) (eX (.val (.int .i64 v36)) rfl) rfl (k0 rfl) <| x_mv (eB rfl) (k0 rfl) <| lx_off rfl rfl (congrArg bo hb37) rfl <| lx_off rfl rfl (congrArg bo hb37) rfl <| lx_off rfl rfl (congrArg bo hb37) rfl <| lx_off rfl rfl (congrArg bo hb37) rfl <| lx_off rfl rfl (congrArg bo hb37) rfl <| x_pf rfl hb37 (eB rfl) (k0 rfl) <| x_mv (eB rfl) (k0 rfl) <| lx_off rfl rfl rfl rfl <| lx_off rfl rfl rfl rfl <| lx_off rfl rfl rfl rfl <| lx_off rfl rfl rfl rfl <| lx_off rfl rfl rfl rfl <| x_pf rfl rfl (eB rfl) (k0 rfl) <| x_mv (eB rfl) (k0 rfl) <| lx_off rfl rfl rfl rfl <| x_pf rfl rfl (eB rfl) (k0 rfl) <| x_as (eB rfl) (k0 rfl) <| lx_nil, ⟨rfl, trivial⟩⟩) ?_
      refine cw_ret (cw_rn ?_)
      cases h
      exact ⟨rfl, sub0⟩
end Go.Ka
