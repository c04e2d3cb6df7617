/- The program comes to what the plain functions say. The program comes to what the plain functions say. -/
import Derived.Test.YtnbmjbpekblhbaaGreatDoorMD
import Derived.Test.YtnbmjbpekblhbaaGreatDoorMB
import Derived.Test.YtnbmjbpekblhbaaGreatDoorMC
set_option linter.all false
namespace Go.Ka
open Go.Proofs Go.Ka.Tryz
open Enc (enc)
variable [Tab] [Tabs]
set_option maxRecDepth 100000

theorem c_internal_stringslite_Index (p0 : Str) (p1 : Str) (r : Int) (h : s_internal_stringslite_Index p0 p1 = some r) : Pu Tryz.prog 93 [tx p0, tx p1] (i64 r) := by
  refine ⟨(nfc nfv (nfc nfv nfn)), nfv, fs_start _ _ Tryz.func93 rfl Tryz.ntmps93 Tryz.results93 rfl fun X hnt hn => ?_⟩
  rw [s_internal_stringslite_Index] at h
  refine cw_seq (cw_rg hnt rfl (x_as (eI rfl) (k0 rfl) <| lx_nil) (cw_seq (cw_rg hnt rfl (x_mv (eT rfl) (k0 rfl) <| x_lnT T9 (eT rfl) (k0 rfl) <| x_as (eI rfl) (k0 rfl) <| lx_nil) (cw_seq (cw_block (cw_seq ?_))))))
  obtain ⟨v2, hq, h⟩ := bindE h
  refine cw_rl [(16, bo v2)] (D := [17, 18, 19, 20, 21, 22, 23, 16]) hnt rfl rfl (by
    rcases Bool.eq_false_or_eq_true (((p1.length : Int) == 0)) with hb1 | hb1
    · replace hq := condT hb1 hq
      replace hq := Option.some.inj hq
      subst hq
      exact ⟨_, _, x_mv (eI rfl) (k0 rfl) <| x_ci (eX (.val (.int .i64 (p1.length : Int))) rfl) (eX (.val (.int .i64 0)) rfl) rfl (k0 rfl) <| x_mv (eB rfl) (k0 rfl) <| lx_off rfl rfl (congrArg bo hb1) rfl <| lx_off rfl rfl (congrArg bo hb1) rfl <| lx_off rfl rfl (congrArg bo hb1) rfl <| x_pt rfl hb1 (eB rfl) (k0 rfl) <| x_as (eB rfl) (k0 rfl) <| lx_nil, ⟨rfl, trivial⟩⟩
    · replace hq := condF hb1 hq
      replace hq := Option.some.inj hq
      subst hq
      exact ⟨_, _, x_mv (eI rfl) (k0 rfl) <| x_ci (eX (.val (.int .i64 (p1.length : Int))) rfl) (eX (.val (.int .i64 0)) rfl) rfl (k0 rfl) <| x_mv (eB rfl) (k0 rfl) <| x_mv (eT rfl) (k1 rfl rfl rfl (congrArg bo hb1)) <| x_mv (eT rfl) (k1 rfl rfl rfl (congrArg bo hb1)) <| x_ct (eT rfl) (eT rfl) rfl (k1 rfl rfl rfl (congrArg bo hb1)) <| x_pf rfl hb1 (eB rfl) (k0 rfl) <| x_as (eB rfl) (k0 rfl) <| lx_nil, ⟨rfl, trivial⟩⟩) ?_
  refine cw_cond rfl (fun hb3 => ?_) (fun hb3 => ?_)
  · replace h := condT hb3 h
    refine cw_seq (cw_rg hnt rfl (x_as (eI rfl) (k0 rfl) <| lx_nil) (cw_ret (cw_rb (cw_rc (cw_rn ?_)))))
    cases h
    exact ⟨rfl, sub0⟩
  · replace h := condF hb3 h
    refine cw_seq (cw_rg hnt rfl (x_mv (eI rfl) (k0 rfl) <| x_ci (eX (.val (.int .i64 (p1.length : Int))) rfl) (eX (.val (.int .i64 1)) rfl) rfl (k0 rfl) <| x_as (eB rfl) (k0 rfl) <| lx_nil) ?_)
    refine cw_cond rfl (fun hb4 => ?_) (fun hb4 => ?_)
    · replace h := condT hb4 h
      refine cw_seq ?_
      obtain ⟨v5, hv5, h⟩ := bindE h
      obtain ⟨v6, hv6, h⟩ := bindE h
      refine cw_rg hnt rfl (x_mv (eT rfl) (k0 rfl) <| x_mv (eT rfl) (k0 rfl) <| x_ixT T9 (eT rfl) rfl hv5 (k0 rfl) <| x_pu (eF rfl) P121 (l_indexByteL p0 v5 v6 hv6) rfl (k0 rfl) <| x_as (eI rfl) (k0 rfl) <| lx_nil) (cw_ret (cw_rb (cw_rc (cw_rn ?_))))
      cases h
      exact ⟨rfl, sub0⟩
    · replace h := condF hb4 h
      refine cw_seq (cw_rg hnt rfl (x_mv (eI rfl) (k0 rfl) <| x_mv (eT rfl) (k0 rfl) <| x_lnT T9 (eT rfl) (k0 rfl) <| x_ci (eX (.val (.int .i64 (p1.length : Int))) rfl) (eX (.val (.int .i64 (p0.length : Int))) rfl) rfl (k0 rfl) <| x_as (eB rfl) (k0 rfl) <| lx_nil) ?_)
      refine cw_cond rfl (fun hb7 => ?_) (fun hb7 => ?_)
      · replace h := condT hb7 h
        refine cw_seq (cw_rg hnt rfl (x_as (eI rfl) (k0 rfl) <| lx_nil) (cw_ret (cw_rb (cw_rc (cw_rn ?_)))))
        cases h
        exact ⟨rfl, sub0⟩
      · replace h := condF hb7 h
        refine cw_seq ?_
        cases h

theorem c_internal_stringslite_Cut (p0 : Str) (p1 : Str) (r : Str × Str × Bool) (h : s_internal_stringslite_Cut p0 p1 = some r) : Pu Tryz.prog 74 [tx p0, tx p1] (.tup [tx r.1, tx r.2.1, bo r.2.2]) := by
  refine ⟨(nfc nfv (nfc nfv nfn)), (NF.tup (nfc nfv (nfc nfv (nfc nfv nfn)))), fs_start _ _ Tryz.func74 rfl Tryz.ntmps74 Tryz.results74 rfl fun X hnt hn => ?_⟩
  rw [s_internal_stringslite_Cut] at h
  refine cw_seq (cw_rg hnt rfl (x_as (eT rfl) (k0 rfl) <| x_as (eT rfl) (k0 rfl) <| x_as (eB rfl) (k0 rfl) <| lx_nil) (cw_seq (cw_seq ?_)))
  obtain ⟨v1, hv1, h⟩ := bindE h
  refine cw_rg hnt rfl (x_mv (eT rfl) (k0 rfl) <| x_mv (eT rfl) (k0 rfl) <| x_pu (eF rfl) P93 (c_internal_stringslite_Index p0 p1 v1 hv1) rfl (k0 rfl) <| x_as (eI rfl) (k0 rfl) <| lx_nil) (cw_seq (cw_rg hnt rfl (x_mv (eI rfl) (k0 rfl) <| x_ci (eX (.val (.int .i64 v1)) rfl) (eX (.val (.int .i64 0)) rfl) rfl (k0 rfl) <| lx_nil) ?_))
  refine cw_cond rfl (fun hb2 => ?_) (fun hb2 => ?_)
  · replace h := condT hb2 h
    refine cw_seq ?_
    obtain ⟨v3, hv3, h⟩ := bindE h
    obtain ⟨v4, hv4, h⟩ := bindE h
    obtain ⟨v5, hv5, h⟩ := bindE h
    refine cw_ra [] [] [] [10, 11] hnt rfl Tryz.mixed (by kernel_rfl) rfl (by decide) (x_mv (eT rfl) (k0 rfl) <| x_mv (eI rfl) (k0 rfl) <| x_slT T9 (eT rfl) rfl rfl hv3 (k0 rfl) <| x_mv (eT rfl) (k0 rfl) <| x_mv (eI rfl) (k0 rfl) <| x_mv (eT rfl) (k0 rfl) <| x_lnT T9 (eT rfl) (k0 rfl) <| x_ai (eI rfl) (eI rfl) hv4 (k0 rfl) <| x_slT T9 (eT rfl) rfl rfl hv5 (k0 rfl) <| x_as (eT rfl) (k0 rfl) <| x_as (eT rfl) (k0 rfl) <| x_as (eB rfl) (k0 rfl) <| lx_nil) (cw_ret (cw_rc (cw_rn ?_)))
    cases h
    exact ⟨rfl, sub0⟩
  · replace h := condF hb2 h
    refine cw_skip (cw_seq (cw_rg hnt rfl (x_mv (eT rfl) (k0 rfl) <| x_as (eT rfl) (k0 rfl) <| x_as (eT rfl) (k0 rfl) <| x_as (eB rfl) (k0 rfl) <| lx_nil) (cw_ret (cw_rn ?_))))
    cases h
    exact ⟨rfl, sub0⟩

theorem c_strings_Cut (p0 : Str) (p1 : Str) (r : Str × Str × Bool) (h : s_strings_Cut p0 p1 = some r) : Pu Tryz.prog 43 [tx p0, tx p1] (.tup [tx r.1, tx r.2.1, bo r.2.2]) := by
  refine ⟨(nfc nfv (nfc nfv nfn)), (NF.tup (nfc nfv (nfc nfv (nfc nfv nfn)))), fs_start _ _ Tryz.func43 rfl Tryz.ntmps43 Tryz.results43 rfl fun X hnt hn => ?_⟩
  rw [s_strings_Cut] at h
  refine cw_seq (cw_rg hnt rfl (x_as (eT rfl) (k0 rfl) <| x_as (eT rfl) (k0 rfl) <| x_as (eB rfl) (k0 rfl) <| lx_nil) (cw_seq ?_))
  obtain ⟨v1, hv1, h⟩ := bindE h
  refine cw_rg hnt rfl (x_mv (eT rfl) (k0 rfl) <| x_mv (eT rfl) (k0 rfl) <| x_pu (eF rfl) P74 (c_internal_stringslite_Cut p0 p1 v1 hv1) rfl (k0 rfl) <| x_ex (eW rfl) (sX (tx v1.1) rfl) (k0 rfl) <| x_ex (eW rfl) (sX (tx v1.2.1) rfl) (k0 rfl) <| x_ex (eW rfl) (sX (bo v1.2.2) rfl) (k0 rfl) <| x_as (eT rfl) (k0 rfl) <| x_as (eT rfl) (k0 rfl) <| x_as (eB rfl) (k0 rfl) <| lx_nil) (cw_ret (cw_rn ?_))
  cases h
  exact ⟨rfl, sub0⟩

theorem c_strings_Builder_WriteByte (p0 : Str) (p1 : UInt8) (r : Str × Bool) (h : s_strings_Builder_WriteByte p0 p1 = some r) {s k n : Nat} (hs : Nat.blt s n = true) (hk : Nat.blt k n = true) (hne : Nat.beq s k = false) : Fx Tryz.prog 80 [.ptr s 0 0, u8 p1] (hl [(s, bO s k p0.length 105 5), (k, ob p0)]) n (er r.2) [(s, some (bO s n r.1.length 105 5)), (k, none), (n, some (ob r.1))] := by
  refine fx_b (j := 12) (nfc nfv nfn) nfr (fs_start _ _ Tryz.func80 rfl Tryz.ntmps80 Tryz.results80 rfl fun X hnt hn => ?_) (by decide) hs hk hne
  rw [s_strings_Builder_WriteByte] at h
  refine cw_seq (cw_rg hnt rfl (x_as (eX _ rfl) (k0 rfl) <| lx_nil) (cw_seq (cw_rg hnt rfl (x_mv (eP rfl) (k0 rfl) <| x_fx (eF rfl) P103 (l_copyCheck (s := 0) (k := 1) (m := p0.length) (e := 5) (n := 4) rfl rfl) (subH ⟨rfl, trivial⟩) rfl (k0 rfl) <| lx_nil) (cw_seq ?_))))
  obtain ⟨v1, hv1, h⟩ := bindE h
  refine cw_rg hnt rfl (x_mv (eP rfl) (k0 rfl) <| x_mv (eP rfl) (k0 rfl) <| x_nc (eP rfl) (.inr ⟨_, _, _, rfl⟩) (k0 rfl) <| x_fp F105_1 (eP rfl) (k0 rfl) <| x_ld L38 (eP rfl) rfl (sX (.owt 1 p0.length 5) rfl) (k0 rfl) <| x_mv (eU p1 rfl) (k0 rfl) <| x_bsA ([p1] : Str) E38 rfl rfl (k0 rfl) <| x_apT (l1 := p0) g38.1 g38.2.1 g38.2.2.1 g38.2.2.2 rfl rfl (vlA' (l := ([p1] : Str)) rfl rfl) hv1 rfl (k0 rfl) <| x_nc (eP rfl) (.inr ⟨_, _, _, rfl⟩) (k0 rfl) <| x_fp F105_1 (eP rfl) (k0 rfl) <| x_st L38 (eP rfl) rfl rfl rfl rfl (k0 rfl) <| lx_nil) (cw_seq (cw_rg hnt rfl (x_as (eX _ rfl) (k0 rfl) <| lx_nil) (cw_ret (cw_rn ?_))))
  cases h
  exact ⟨rfl, subB rfl rfl⟩

theorem c_strings_Builder_Write (p0 : Str) (p1 : Str) (r : Str × Int × Bool) (h : s_strings_Builder_Write p0 p1 = some r) {s k n : Nat} (hs : Nat.blt s n = true) (hk : Nat.blt k n = true) (hne : Nat.beq s k = false) : Fx Tryz.prog 82 [.ptr s 0 0, ar p1] (hl [(s, bO s k p0.length 105 5), (k, ob p0)]) n (.tup [i64 r.2.1, er r.2.2]) [(s, some (bO s n r.1.length 105 5)), (k, none), (n, some (ob r.1))] := by
  refine fx_b (j := 12) (nfc nfa nfn) (NF.tup (nfc nfv (nfc nfr nfn))) (fs_start _ _ Tryz.func82 rfl Tryz.ntmps82 Tryz.results82 rfl fun X hnt hn => ?_) (by decide) hs hk hne
  rw [s_strings_Builder_Write] at h
  refine cw_seq (cw_rg hnt rfl (x_as (eI rfl) (k0 rfl) <| x_as (eX _ rfl) (k0 rfl) <| lx_nil) (cw_seq (cw_rg hnt rfl (x_mv (eP rfl) (k0 rfl) <| x_fx (eF rfl) P103 (l_copyCheck (s := 0) (k := 1) (m := p0.length) (e := 5) (n := 5) rfl rfl) (subH ⟨rfl, trivial⟩) rfl (k0 rfl) <| lx_nil) (cw_seq ?_))))
  obtain ⟨v1, hv1, h⟩ := bindE h
  refine cw_rg hnt rfl (x_mv (eP rfl) (k0 rfl) <| x_mv (eP rfl) (k0 rfl) <| x_nc (eP rfl) (.inr ⟨_, _, _, rfl⟩) (k0 rfl) <| x_fp F105_1 (eP rfl) (k0 rfl) <| x_ld L38 (eP rfl) rfl (sX (.owt 1 p0.length 5) rfl) (k0 rfl) <| x_mv (eA rfl) (k0 rfl) <| x_apT (l1 := p0) g38.1 g38.2.1 g38.2.2.1 g38.2.2.2 rfl rfl (vlA' (l := (p1 : Str)) rfl rfl) hv1 rfl (k0 rfl) <| x_nc (eP rfl) (.inr ⟨_, _, _, rfl⟩) (k0 rfl) <| x_fp F105_1 (eP rfl) (k0 rfl) <| x_st L38 (eP rfl) rfl rfl rfl rfl (k0 rfl) <| lx_nil) (cw_seq (cw_rg hnt rfl (x_mv (eA rfl) (k0 rfl) <| x_lnA E38 (eX (ar p1) rfl) (k0 rfl) <| x_as (eI rfl) (k0 rfl) <| x_as (eX _ rfl) (k0 rfl) <| lx_nil) (cw_ret (cw_rn ?_))))
  cases h
  exact ⟨rfl, subB rfl rfl⟩

theorem c_strings_Builder_WriteString (p0 : Str) (p1 : Str) (r : Str × Int × Bool) (h : s_strings_Builder_WriteString p0 p1 = some r) {s k n : Nat} (hs : Nat.blt s n = true) (hk : Nat.blt k n = true) (hne : Nat.beq s k = false) : Fx Tryz.prog 81 [.ptr s 0 0, tx p1] (hl [(s, bO s k p0.length 105 5), (k, ob p0)]) n (.tup [i64 r.2.1, er r.2.2]) [(s, some (bO s n r.1.length 105 5)), (k, none), (n, some (ob r.1))] := by
  refine fx_b (j := 12) (nfc nfv nfn) (NF.tup (nfc nfv (nfc nfr nfn))) (fs_start _ _ Tryz.func81 rfl Tryz.ntmps81 Tryz.results81 rfl fun X hnt hn => ?_) (by decide) hs hk hne
  rw [s_strings_Builder_WriteString] at h
  refine cw_seq (cw_rg hnt rfl (x_as (eI rfl) (k0 rfl) <| x_as (eX _ rfl) (k0 rfl) <| lx_nil) (cw_seq (cw_rg hnt rfl (x_mv (eP rfl) (k0 rfl) <| x_fx (eF rfl) P103 (l_copyCheck (s := 0) (k := 1) (m := p0.length) (e := 5) (n := 5) rfl rfl) (subH ⟨rfl, trivial⟩) rfl (k0 rfl) <| lx_nil) (cw_seq ?_))))
  obtain ⟨v1, hv1, h⟩ := bindE h
  refine cw_rg hnt rfl (x_mv (eP rfl) (k0 rfl) <| x_mv (eP rfl) (k0 rfl) <| x_nc (eP rfl) (.inr ⟨_, _, _, rfl⟩) (k0 rfl) <| x_fp F105_1 (eP rfl) (k0 rfl) <| x_ld L38 (eP rfl) rfl (sX (.owt 1 p0.length 5) rfl) (k0 rfl) <| x_mv (eT rfl) (k0 rfl) <| x_apTS (l1 := p0) g38.1 g38.2.1 g38.2.2.1 g38.2.2.2 T9 rfl rfl (eT rfl) hv1 rfl (k0 rfl) <| x_nc (eP rfl) (.inr ⟨_, _, _, rfl⟩) (k0 rfl) <| x_fp F105_1 (eP rfl) (k0 rfl) <| x_st L38 (eP rfl) rfl rfl rfl rfl (k0 rfl) <| lx_nil) (cw_seq (cw_rg hnt rfl (x_mv (eT rfl) (k0 rfl) <| x_lnT T9 (eT rfl) (k0 rfl) <| x_as (eI rfl) (k0 rfl) <| x_as (eX _ rfl) (k0 rfl) <| lx_nil) (cw_ret (cw_rn ?_))))
  cases h
  exact ⟨rfl, subB rfl rfl⟩

theorem c_strings_Builder_String (p0 : Str) (r : Str) (h : s_strings_Builder_String p0 = some r) {s k n : Nat} (hs : Nat.blt s n = true) (hk : Nat.blt k n = true) (hne : Nat.beq s k = false) : Fx Tryz.prog 83 [.ptr s 0 0] (hl [(s, bO s k p0.length 105 5), (k, ob p0)]) n (tx r) [(s, none), (k, none)] := by
  refine fx_bs nfn nfv (fs_start _ _ Tryz.func83 rfl Tryz.ntmps83 Tryz.results83 rfl fun X hnt hn => ?_) hs hk hne
  rw [s_strings_Builder_String] at h
  refine cw_seq (cw_rg hnt rfl (x_as (eT rfl) (k0 rfl) <| lx_nil) (cw_seq ?_))
  obtain ⟨v1, hv1, h⟩ := bindE h
  refine cw_ra [1] [] [] [10, 11] hnt rfl Tryz.mixed (by kernel_rfl) rfl (by decide) (x_mv (eP rfl) (k0 rfl) <| x_nc (eP rfl) (.inr ⟨_, _, _, rfl⟩) (k0 rfl) <| x_fp F105_1 (eP rfl) (k0 rfl) <| x_ld L38 (eP rfl) rfl (sX (.owt 1 p0.length 5) rfl) (k0 rfl) <| x_sd D136 rfl rfl (k0 rfl) <| x_mv (eP rfl) (k0 rfl) <| x_nc (eP rfl) (.inr ⟨_, _, _, rfl⟩) (k0 rfl) <| x_fp F105_1 (eP rfl) (k0 rfl) <| x_ld L38 (eP rfl) rfl (sX (.owt 1 p0.length 5) rfl) (k0 rfl) <| x_ln (n := p0.length) E38 rfl (k0 rfl) <| x_us (l := p0) D136 c5 rfl (lenO_le hv1) rfl rfl rfl (k0 rfl) <| x_as (eT rfl) (k0 rfl) <| lx_nil) (cw_ret (cw_rn ?_))
  cases h
  exact ⟨rfl, subR⟩
end Go.Ka
namespace Go.Ka
open Go.Proofs Go.Ka.Tryz
open Enc (enc)
variable [Tab] [Tabs]
set_option maxRecDepth 100000

theorem c_r1_Classes (r : List T_Class) (h : s_r1_Classes = some r) : Pu Tryz.prog 27 [] (ar r) := by
  refine ⟨nfn, nfa, fs_start _ _ Tryz.func27 rfl Tryz.ntmps27 Tryz.results27 rfl fun X hnt hn => ?_⟩
  rw [s_r1_Classes] at h
  refine cw_seq (cw_rg hnt rfl (x_as (eV rfl) (k0 rfl) <| lx_nil) (cw_seq (cw_rg hnt rfl (x_bsA ([k_objectclass] : List Str) E27 rfl rfl (k0 rfl) <| x_bd B29 (sX3 ([tx k_top, tx [], bo false, ar ([k_objectclass] : List Str), nl]) rfl) (k0 rfl) <| x_bsA ([k_o] : List Str) E27 rfl rfl (k0 rfl) <| x_bsA ([k_description] : List Str) E27 rfl rfl (k0 rfl) <| x_bd B29 (sX3 ([tx k_organization, tx k_top, bo true, ar ([k_o] : List Str), ar ([k_description] : List Str)]) rfl) (k0 rfl) <| x_bsA ([k_ou] : List Str) E27 rfl rfl (k0 rfl) <| x_bsA ([k_description] : List Str) E27 rfl rfl (k0 rfl) <| x_bd B29 (sX3 ([tx k_organizationalunit, tx k_top, bo true, ar ([k_ou] : List Str), ar ([k_description] : List Str)]) rfl) (k0 rfl) <| x_bsA ([k_cn, k_sn] : List Str) E27 rfl rfl (k0 rfl) <| x_bsA ([k_description, k_userpassword] : List Str) E27 rfl rfl (k0 rfl) <| x_bd B29 (sX3 ([tx k_person, tx k_top, bo true, ar ([k_cn, k_sn] : List Str), ar ([k_description, k_userpassword] : List Str)]) rfl) (k0 rfl) <| x_bsA ([k_uid, k_mail] : List Str) E27 rfl rfl (k0 rfl) <| x_bd B29 (sX3 ([tx k_inetorgperson, tx k_person, bo true, nl, ar ([k_uid, k_mail] : List Str)]) rfl) (k0 rfl) <| x_bsA ([k_uid, k_uidnumber] : List Str) E27 rfl rfl (k0 rfl) <| x_bd B29 (sX3 ([tx k_posix, tx k_top, bo false, ar ([k_uid, k_uidnumber] : List Str), nl]) rfl) (k0 rfl) <| x_bsA ([k_cn, k_member] : List Str) E27 rfl rfl (k0 rfl) <| x_bsA ([k_description] : List Str) E27 rfl rfl (k0 rfl) <| x_bd B29 (sX3 ([tx k_groupofnames, tx k_top, bo true, ar ([k_cn, k_member] : List Str), ar ([k_description] : List Str)]) rfl) (k0 rfl) <| x_bsW ([(⟨k_top, [], false, [k_objectclass], []⟩ : T_Class), (⟨k_organization, k_top, true, [k_o], [k_description]⟩ : T_Class), (⟨k_organizationalunit, k_top, true, [k_ou], [k_description]⟩ : T_Class), (⟨k_person, k_top, true, [k_cn, k_sn], [k_description, k_userpassword]⟩ : T_Class), (⟨k_inetorgperson, k_person, true, [], [k_uid, k_mail]⟩ : T_Class), (⟨k_posix, k_top, false, [k_uid, k_uidnumber], []⟩ : T_Class), (⟨k_groupofnames, k_top, true, [k_cn, k_member], [k_description]⟩ : T_Class)] : List T_Class) E55 (sX2 [[tx k_top, tx [], bo false, ar ([k_objectclass] : List Str), nl], [tx k_organization, tx k_top, bo true, ar ([k_o] : List Str), ar ([k_description] : List Str)], [tx k_organizationalunit, tx k_top, bo true, ar ([k_ou] : List Str), ar ([k_description] : List Str)], [tx k_person, tx k_top, bo true, ar ([k_cn, k_sn] : List Str), ar ([k_description, k_userpassword] : List Str)], [tx k_inetorgperson, tx k_person, bo true, nl, ar ([k_uid, k_mail] : List Str)], [tx k_posix, tx k_top, bo false, ar ([k_uid, k_uidnumber] : List Str), nl], [tx k_groupofnames, tx k_top, bo true, ar ([k_cn, k_member] : List Str), ar ([k_description] : List Str)]] rfl) rfl (wkl (wkc (Wk.refl _) (wkc (Wk.refl _) (wkc (Wk.refl _) (wkc (Wk.refl _) (wkc Wk.nil wkn0))))) (wkl (wkc (Wk.refl _) (wkc (Wk.refl _) (wkc (Wk.refl _) (wkc (Wk.refl _) (wkc (Wk.refl _) wkn0))))) (wkl (wkc (Wk.refl _) (wkc (Wk.refl _) (wkc (Wk.refl _) (wkc (Wk.refl _) (wkc (Wk.refl _) wkn0))))) (wkl (wkc (Wk.refl _) (wkc (Wk.refl _) (wkc (Wk.refl _) (wkc (Wk.refl _) (wkc (Wk.refl _) wkn0))))) (wkl (wkc (Wk.refl _) (wkc (Wk.refl _) (wkc (Wk.refl _) (wkc Wk.nil (wkc (Wk.refl _) wkn0))))) (wkl (wkc (Wk.refl _) (wkc (Wk.refl _) (wkc (Wk.refl _) (wkc (Wk.refl _) (wkc Wk.nil wkn0))))) (wkl (wkc (Wk.refl _) (wkc (Wk.refl _) (wkc (Wk.refl _) (wkc (Wk.refl _) (wkc (Wk.refl _) wkn0))))) wkn))))))) (k0 rfl) <| x_as (eA rfl) (k0 rfl) <| lx_nil) (cw_ret (cw_rn ?_)))))
  cases h
  exact ⟨rfl, sub0⟩

theorem c_r1_Lower (p0 : Str) (r : Str) (h : s_r1_Lower p0 = some r) : Pu Tryz.prog 21 [tx p0] (tx r) := by
  refine ⟨(nfc nfv nfn), nfv, fs_start _ _ Tryz.func21 rfl Tryz.ntmps21 Tryz.results21 rfl fun X hnt hn => ?_⟩
  rw [s_r1_Lower] at h
  refine cw_seq (cw_rg hnt rfl (x_as (eT rfl) (k0 rfl) <| lx_nil) (cw_seq ?_))
  obtain ⟨v1, hv1, h⟩ := bindE h
  refine cw_rg hnt rfl (x_mv (eT rfl) (k0 rfl) <| x_tob T9 Y38 (eT rfl) hv1 (k0 rfl) <| x_as (eO rfl) (k0 rfl) <| lx_nil) (cw_seq (cw_seq (cw_rg hnt rfl (x_as (eI rfl) (k0 rfl) <| lx_nil) ?_)))
  refine cw_cut (fun st => ∃ (v34 : Str), r1_Lower_k1 v34 = some r ∧ st = ⟨ls [(3, .own 2 0 v34.length)], hl [(2, ob (v34 : Str))], 9⟩) ?_ ?_
  · skip
    refine cw_block (cw_to (to_ren (N := 0) (n' := 5) (L := [(3, .own 2 0 v1.length), (4, i64 0)]) (H := [(2, ob (v1 : Str))]) (id) [2] [] hn rfl rfl rfl fix0 (by decide) ⟨(Tr.own rfl), trv, trivial⟩ ⟨.inr ⟨rfl, _, rfl, tro⟩, trivial⟩) ?_)
    refine cw_loop (fun g st => ∃ (v46 : Int) (v45 : Str), r1_Lower_l1 g v46 v45 = some r ∧ st = ⟨ls [(3, .own 2 0 v45.length), (4, i64 v46)], hl [(2, ob (v45 : Str))], 5⟩) FUEL ⟨0, v1, h, rfl⟩ ?_
    rintro g _ ⟨v46, v45, h, rfl⟩
    rcases g with _ | g1
    · rw [r1_Lower_l1] at h; cases h
    rw [r1_Lower_l1] at h
    refine cw_seq (cw_seq (cw_rg hnt rfl (x_mv (eI rfl) (k0 rfl) <| x_mv (eO rfl) (k0 rfl) <| x_ln (n := v45.length) E38 rfl (k0 rfl) <| x_ci (eX (.val (.int .i64 v46)) rfl) (eX (.val (.int .i64 (v45.length : Int))) rfl) rfl (k0 rfl) <| lx_nil) ?_))
    refine cw_cond rfl (fun hb57 => ?_) (fun hb57 => ?_)
    · replace h := condT hb57 h
      refine cw_skip (cw_seq (cw_block (cw_seq ?_)))
      obtain ⟨v61, hq, h⟩ := bindE h
      refine cw_rl [(24, bo v61)] (D := [13, 14, 15, 16, 17, 18, 19, 20, 21, 22, 23, 24]) hnt rfl rfl (by
        obtain ⟨v58, hv58, hq⟩ := bindE hq
        rcases Bool.eq_false_or_eq_true ((decide (65 ≤ v58))) with hb59 | hb59
        · replace hq := condT hb59 hq
          obtain ⟨v60, hv60, hq⟩ := bindE hq
          replace hq := Option.some.inj hq
          subst hq
          exact ⟨_, _, x_mv (eO rfl) (k0 rfl) <| x_mv (eI rfl) (k0 rfl) <| x_io E38 rfl (eO rfl) rfl rfl (lgB hv58) (k0 rfl) <| x_ldE L5 (eP rfl) rfl (lgO hv58) (sX (u8 v58) rfl) (k0 rfl) <| x_cu (eU v58 rfl) (eU 65 rfl) rfl (k0 rfl) <| x_mv (eB rfl) (k0 rfl) <| x_mv (eO rfl) (k1 rfl rfl rfl (congrArg bo hb59)) <| x_mv (eI rfl) (k1 rfl rfl rfl (congrArg bo hb59)) <| x_io E38 rfl (eO rfl) rfl rfl (lgB hv60) (k1 rfl rfl rfl (congrArg bo hb59)) <| x_ldE L5 (eP rfl) rfl (lgO hv60) (sX (u8 v60) rfl) (k1 rfl rfl rfl (congrArg bo hb59)) <| x_cu (eU v60 rfl) (eU 90 rfl) rfl (k1 rfl rfl rfl (congrArg bo hb59)) <| x_pt rfl hb59 (eB rfl) (k0 rfl) <| lx_nil, ⟨rfl, trivial⟩⟩
        · replace hq := condF hb59 hq
          replace hq := Option.some.inj hq
          subst hq
          exact ⟨_, _, x_mv (eO rfl) (k0 rfl) <| x_mv (eI rfl) (k0 rfl) <| x_io E38 rfl (eO rfl) rfl rfl (lgB hv58) (k0 rfl) <| x_ldE L5 (eP rfl) rfl (lgO hv58) (sX (u8 v58) rfl) (k0 rfl) <| x_cu (eU v58 rfl) (eU 65 rfl) rfl (k0 rfl) <| x_mv (eB rfl) (k0 rfl) <| lx_off rfl rfl (congrArg bo hb59) rfl <| lx_off rfl rfl (congrArg bo hb59) rfl <| lx_off rfl rfl (congrArg bo hb59) rfl <| lx_off rfl rfl (congrArg bo hb59) rfl <| lx_off rfl rfl (congrArg bo hb59) rfl <| x_pf rfl hb59 (eB rfl) (k0 rfl) <| lx_nil, ⟨rfl, trivial⟩⟩) ?_
      refine cw_cond rfl (fun hb62 => ?_) (fun hb62 => ?_)
      · replace h := condT hb62 h
        obtain ⟨v63, hv63, h⟩ := bindE h
        obtain ⟨v64, hv64, h⟩ := bindE h
        refine cw_rg hnt rfl (x_mv (eO rfl) (k0 rfl) <| x_mv (eI rfl) (k0 rfl) <| x_mv (eO rfl) (k0 rfl) <| x_mv (eI rfl) (k0 rfl) <| x_io E38 rfl (eO rfl) rfl rfl (lgB hv63) (k0 rfl) <| x_ldE L5 (eP rfl) rfl (lgO hv63) (sX (u8 v63) rfl) (k0 rfl) <| x_au (eU v63 rfl) (eU 32 rfl) rfl (k0 rfl) <| x_io E38 rfl (eO rfl) rfl rfl (lgB hv64) (k0 rfl) <| x_stE (a' := (v63 + 32)) L5 (eP rfl) rfl rfl (lgO hv64) rfl rfl (k0 rfl) <| lx_nil) (cw_blk ?_)
        obtain ⟨v65, hv65, h⟩ := bindE h
        refine cw_rg hnt rfl (x_mv (eI rfl) (k0 rfl) <| x_ai (eI rfl) (eI rfl) hv65 (k0 rfl) <| x_as (eI rfl) (k0 rfl) <| lx_nil) (cw_nil ?_)
        exact ⟨g1, _, Nat.lt_succ_self _, (to_ren (N := 0) (n' := 5) (L := [(3, .own 2 0 ((v45.set v46.toNat (v63 + 32)).length)), (4, i64 v65)]) (H := [(2, ob ((v45.set v46.toNat (v63 + 32)) : Str))]) (id) [2] [] hn rfl rfl rfl fix0 (by decide) ⟨(Tr.ownE rfl (by simp)), trv, trivial⟩ ⟨.inr ⟨rfl, _, rfl, tro⟩, trivial⟩), v65, (v45.set v46.toNat (v63 + 32)), h, rfl⟩
      · replace h := condF hb62 h
        refine cw_skip (cw_blk ?_)
        obtain ⟨v66, hv66, h⟩ := bindE h
        refine cw_rg hnt rfl (x_mv (eI rfl) (k0 rfl) <| x_ai (eI rfl) (eI rfl) hv66 (k0 rfl) <| x_as (eI rfl) (k0 rfl) <| lx_nil) (cw_nil ?_)
        exact ⟨g1, _, Nat.lt_succ_self _, (to_ren (N := 0) (n' := 5) (L := [(3, .own 2 0 v45.length), (4, i64 v66)]) (H := [(2, ob (v45 : Str))]) (id) [2] [] hn rfl rfl rfl fix0 (by decide) ⟨(Tr.own rfl), trv, trivial⟩ ⟨.inr ⟨rfl, _, rfl, tro⟩, trivial⟩), v66, v45, h, rfl⟩
    · replace h := condF hb57 h
      refine cw_exit (cw_xc (cw_xt (cw_xb (cw_nil ?_))))
      exact ⟨_, (to_ren (N := 0) (n' := 9) (L := [(3, .own 2 0 v45.length)]) (H := [(2, ob (v45 : Str))]) (id) [2] [] hn rfl rfl rfl fix0 (by decide) ⟨(Tr.own rfl), trivial⟩ ⟨.inr ⟨rfl, _, rfl, tro⟩, trivial⟩), v45, h, rfl⟩
  · rintro _ ⟨v34, h, rfl⟩
    rw [r1_Lower_k1] at h
    refine cw_seq (cw_rg hnt rfl (x_mv (eO rfl) (k0 rfl) <| x_tos (s := v34) Y38 T9 rfl rfl (k0 rfl) <| x_as (eT rfl) (k0 rfl) <| lx_nil) (cw_ret (cw_rn ?_)))
    cases h
    exact ⟨rfl, sub0⟩

theorem c_r1_FindClass (p0 : Str) (r : T_R1Class) (h : s_r1_FindClass p0 = some r) : Pu Tryz.prog 12 [tx p0] (.agg (enc r)) := by
  refine ⟨(nfc nfv nfn), nfe, fs_start _ _ Tryz.func12 rfl Tryz.ntmps12 Tryz.results12 rfl fun X hnt hn => ?_⟩
  rw [s_r1_FindClass] at h
  refine cw_seq (cw_rg hnt rfl (x_al Z33 (k0 rfl) <| lx_nil) (cw_seq ?_))
  obtain ⟨v1, hv1, h⟩ := bindE h
  refine cw_rg hnt rfl (x_pu (eF rfl) P27 (c_r1_Classes v1 hv1) rfl (k0 rfl) <| x_as (eA rfl) (k0 rfl) <| lx_nil) (cw_seq (cw_seq (cw_rg hnt rfl (x_as (eI rfl) (k0 rfl) <| lx_nil) ?_)))
  refine cw_cut (fun st => r1_FindClass_k1 = some r ∧ st = ⟨ls [(2, .ptr 0 0 0)], hl [(0, ⟨[[tx [], tx [], bo false, nl, nl, bo false]], 6⟩)], 8⟩) ?_ ?_
  · skip
    refine cw_block (cw_to (to_ren (N := 0) (n' := 4) (L := [(0, tx p0), (2, .ptr 0 0 0), (3, ar v1), (4, i64 0)]) (H := [(0, ⟨[[tx [], tx [], bo false, nl, nl, bo false]], 6⟩)]) (id) [0] [] hn rfl rfl rfl fix0 (by decide) ⟨trv, (Tr.ptr rfl), tra, trv, trivial⟩ ⟨.inr ⟨rfl, _, rfl, TrO.cell (.cons trv (.cons trv (.cons trv (.cons trv (.cons trv (.cons trv .nil)))))) rfl⟩, trivial⟩) ?_)
    refine cw_loop (fun g st => ∃ (v27 : Int), r1_FindClass_l1 p0 v1 g v27 = some r ∧ st = ⟨ls [(0, tx p0), (2, .ptr 0 0 0), (3, ar v1), (4, i64 v27)], hl [(0, ⟨[[tx [], tx [], bo false, nl, nl, bo false]], 6⟩)], 4⟩) FUEL ⟨0, h, rfl⟩ ?_
    rintro g _ ⟨v27, h, rfl⟩
    rcases g with _ | g1
    · rw [r1_FindClass_l1] at h; cases h
    rw [r1_FindClass_l1] at h
    refine cw_seq (cw_seq (cw_rg hnt rfl (x_mv (eI rfl) (k0 rfl) <| x_mv (eA rfl) (k0 rfl) <| x_lnA E55 (eX (ar v1) rfl) (k0 rfl) <| x_ci (eX (.val (.int .i64 v27)) rfl) (eX (.val (.int .i64 (v1.length : Int))) rfl) rfl (k0 rfl) <| lx_nil) ?_))
    refine cw_cond rfl (fun hb34 => ?_) (fun hb34 => ?_)
    · replace h := condT hb34 h
      refine cw_skip (cw_seq (cw_block (cw_seq ?_)))
      obtain ⟨v35, hv35, h⟩ := bindE h
      obtain ⟨v36, hv36, h⟩ := bindE h
      refine cw_ra [] [] [] [7] hnt rfl Tryz.mixed (by kernel_rfl) rfl (by decide) (x_mv (eA rfl) (k0 rfl) <| x_mv (eI rfl) (k0 rfl) <| x_ia E55 rfl (eX (ar v1) rfl) rfl hv35 (k0 rfl) <| x_fq F29_0 (eQ rfl) (k0 rfl) <| x_ld L9 (eQ rfl) rfl (sX (tx v35.Name) rfl) (k0 rfl) <| x_mv (eT rfl) (k0 rfl) <| x_pu (eF rfl) P21 (c_r1_Lower p0 v36 hv36) rfl (k0 rfl) <| x_ct (eT rfl) (eT rfl) rfl (k0 rfl) <| lx_nil) ?_
      refine cw_cond rfl (fun hb37 => ?_) (fun hb37 => ?_)
      · replace h := condT hb37 h
        refine cw_seq ?_
        obtain ⟨v38, hv38, h⟩ := bindE h
        refine cw_rg hnt rfl (x_mv (eA rfl) (k0 rfl) <| x_mv (eI rfl) (k0 rfl) <| x_ia E55 rfl (eX (ar v1) rfl) rfl hv38 (k0 rfl) <| x_ld L29 (eQ rfl) rfl (sX (.agg [tx v38.Name, tx v38.Sup, bo v38.Structural, ar v38.Must, ar v38.May]) rfl) (k0 rfl) <| x_bd B33 (sX3 ([tx v38.Name, tx v38.Sup, bo v38.Structural, ar v38.Must, ar v38.May, bo true]) rfl) (k0 rfl) <| x_st L33 (eP rfl) rfl rfl rfl rfl (k0 rfl) <| lx_nil) (cw_ret (cw_rb (cw_rc (cw_rt (cw_rb (cw_rt (cw_rc (cw_rn ?_))))))))
        cases h
        exact ⟨rfl, sub0⟩
      · replace h := condF hb37 h
        refine cw_skip (cw_blk ?_)
        obtain ⟨v39, hv39, h⟩ := bindE h
        refine cw_rg hnt rfl (x_mv (eI rfl) (k0 rfl) <| x_ai (eI rfl) (eI rfl) hv39 (k0 rfl) <| x_as (eI rfl) (k0 rfl) <| lx_nil) (cw_nil ?_)
        exact ⟨g1, _, Nat.lt_succ_self _, (to_ren (N := 0) (n' := 4) (L := [(0, tx p0), (2, .ptr 0 0 0), (3, ar v1), (4, i64 v39)]) (H := [(0, ⟨[[tx [], tx [], bo false, nl, nl, bo false]], 6⟩)]) (id) [0] [] hn rfl rfl rfl fix0 (by decide) ⟨trv, (Tr.ptr rfl), tra, trv, trivial⟩ ⟨.inr ⟨rfl, _, rfl, TrO.cell (.cons trv (.cons trv (.cons trv (.cons trv (.cons trv (.cons trv .nil)))))) rfl⟩, trivial⟩), v39, h, rfl⟩
    · replace h := condF hb34 h
      refine cw_exit (cw_xc (cw_xt (cw_xb (cw_nil ?_))))
      exact ⟨_, (to_ren (N := 0) (n' := 8) (L := [(2, .ptr 0 0 0)]) (H := [(0, ⟨[[tx [], tx [], bo false, nl, nl, bo false]], 6⟩)]) (id) [0] [] hn rfl rfl rfl fix0 (by decide) ⟨(Tr.ptr rfl), trivial⟩ ⟨.inr ⟨rfl, _, rfl, TrO.cell (.cons trv (.cons trv (.cons trv (.cons trv (.cons trv (.cons trv .nil)))))) rfl⟩, trivial⟩), h, rfl⟩
  · rintro _ ⟨h, rfl⟩
    rw [r1_FindClass_k1] at h
    refine cw_seq (cw_rg hnt rfl (x_bd B33 (sX3 ([tx [], tx [], bo false, nl, nl, bo false]) rfl) (k0 rfl) <| x_st L33 (eP rfl) rfl rfl rfl rfl (k0 rfl) <| lx_nil) (cw_to (to_ren (N := 0) (n' := 10) (L := [(2, .ptr 0 0 0)]) (H := [(0, ⟨[[tx [], tx [], bo false, ar ([] : List Str), ar ([] : List Str), bo false]], 6⟩)]) (id) [0] [] hn rfl rfl rfl fix0 (by decide) ⟨(Tr.ptr rfl), trivial⟩ ⟨.inr ⟨rfl, _, rfl, TrO.cell (.cons trv (.cons trv (.cons trv (.cons Tr.nilArr (.cons Tr.nilArr (.cons trv .nil)))))) rfl⟩, trivial⟩) (cw_ret (cw_rn ?_))))
    cases h
    exact ⟨rfl, sub0⟩

theorem c_r1_cut (p0 : Str) (r : List Str) (h : s_r1_cut p0 = some r) : Pu Tryz.prog 60 [tx p0] (ar r) := by
  refine ⟨(nfc nfv nfn), nfa, fs_start _ _ Tryz.func60 rfl Tryz.ntmps60 Tryz.results60 rfl fun X hnt hn => ?_⟩
  rw [s_r1_cut] at h
  refine cw_seq (cw_rg hnt rfl (x_as (eV rfl) (k0 rfl) <| lx_nil) (cw_seq (cw_rg hnt rfl (x_as (eV rfl) (k0 rfl) <| lx_nil) (cw_seq (cw_rg hnt rfl (x_as (eI rfl) (k0 rfl) <| lx_nil) (cw_seq (cw_seq (cw_rg hnt rfl (x_as (eI rfl) (k0 rfl) <| lx_nil) ?_))))))))
  refine cw_cut (fun st => ∃ (v38 : Int) (v37 : List Str), r1_cut_k1 p0 v38 v37 = some r ∧ st = ⟨ls [(0, tx p0), (3, .own 4 0 v37.length), (4, i64 v38)], hl [(4, ob (v37 : List Str))], 9⟩) ?_ ?_
  · skip
    refine cw_block (cw_to (to_ren (N := 0) (n' := 5) (L := [(0, tx p0), (3, .own 4 0 0), (4, i64 0), (5, i64 0)]) (H := [(4, ob ([] : List Str))]) (id) [] [4] hn rfl rfl rfl fix0 .nil ⟨trv, (Tr.nilOwn rfl), trv, trv, trivial⟩ ⟨.inl ⟨rfl, rfl⟩, trivial⟩) ?_)
    refine cw_loop (fun g st => ∃ (v54 : Int) (v52 : Int) (v53 : List Str), r1_cut_l1 p0 g v54 v52 v53 = some r ∧ st = ⟨ls [(0, tx p0), (3, .own 4 0 v53.length), (4, i64 v54), (5, i64 v52)], hl [(4, ob (v53 : List Str))], 5⟩) FUEL ⟨0, 0, [], h, rfl⟩ ?_
    rintro g _ ⟨v54, v52, v53, h, rfl⟩
    rcases g with _ | g1
    · rw [r1_cut_l1] at h; cases h
    rw [r1_cut_l1] at h
    refine cw_seq (cw_seq (cw_rg hnt rfl (x_mv (eI rfl) (k0 rfl) <| x_mv (eT rfl) (k0 rfl) <| x_lnT T9 (eT rfl) (k0 rfl) <| x_ci (eX (.val (.int .i64 v52)) rfl) (eX (.val (.int .i64 (p0.length : Int))) rfl) rfl (k0 rfl) <| lx_nil) ?_))
    refine cw_cond rfl (fun hb66 => ?_) (fun hb66 => ?_)
    · replace h := condT hb66 h
      refine cw_skip (cw_seq (cw_block (cw_seq ?_)))
      obtain ⟨v67, hv67, h⟩ := bindE h
      refine cw_rg hnt rfl (x_mv (eT rfl) (k0 rfl) <| x_mv (eI rfl) (k0 rfl) <| x_ixT T9 (eT rfl) rfl hv67 (k0 rfl) <| lx_nil) (cw_block (cw_seq (cw_rg hnt rfl (x_cu (eU v67 rfl) (eU 92 rfl) rfl (k0 rfl) <| x_as (eB rfl) (k0 rfl) <| lx_nil) ?_)))
      refine cw_cond rfl (fun hb68 => ?_) (fun hb68 => ?_)
      · replace h := condT hb68 h
        obtain ⟨v69, hv69, h⟩ := bindE h
        refine cw_rg hnt rfl (x_mv (eI rfl) (k0 rfl) <| x_ai (eI rfl) (eI rfl) hv69 (k0 rfl) <| x_as (eI rfl) (k0 rfl) <| lx_nil) (cw_blk (cw_blk ?_))
        obtain ⟨v70, hv70, h⟩ := bindE h
        refine cw_rg hnt rfl (x_mv (eI rfl) (k0 rfl) <| x_ai (eI rfl) (eI rfl) hv70 (k0 rfl) <| x_as (eI rfl) (k0 rfl) <| lx_nil) (cw_nil ?_)
        exact ⟨g1, _, Nat.lt_succ_self _, (to_ren (N := 0) (n' := 5) (L := [(0, tx p0), (3, .own 4 0 v53.length), (4, i64 v54), (5, i64 v70)]) (H := [(4, ob (v53 : List Str))]) (id) [4] [] hn rfl rfl rfl fix0 (by decide) ⟨trv, (Tr.own rfl), trv, trv, trivial⟩ ⟨.inr ⟨rfl, _, rfl, tro⟩, trivial⟩), v54, v70, v53, h, rfl⟩
      · replace h := condF hb68 h
        refine cw_seq (cw_rg hnt rfl (x_cu (eU v67 rfl) (eU 44 rfl) rfl (k0 rfl) <| x_as (eB rfl) (k0 rfl) <| lx_nil) ?_)
        refine cw_cond rfl (fun hb71 => ?_) (fun hb71 => ?_)
        · replace h := condT hb71 h
          refine cw_seq ?_
          obtain ⟨v72, hv72, h⟩ := bindE h
          obtain ⟨v73, hv73, h⟩ := bindE h
          refine cw_rg hnt rfl (x_mv (eO rfl) (k0 rfl) <| x_mv (eT rfl) (k0 rfl) <| x_mv (eI rfl) (k0 rfl) <| x_mv (eI rfl) (k0 rfl) <| x_slT T9 (eT rfl) rfl rfl hv72 (k0 rfl) <| x_bsA ([v72] : List Str) E27 rfl rfl (k0 rfl) <| x_apO (l1 := v53) E27 rfl rfl rfl (vlA' (l := ([v72] : List Str)) rfl rfl) hv73 (k0 rfl) <| x_as (eO rfl) (k0 rfl) <| lx_nil) ?_
          obtain ⟨v74, hv74, h⟩ := bindE h
          refine cw_rg hnt rfl (x_mv (eI rfl) (k0 rfl) <| x_ai (eI rfl) (eI rfl) hv74 (k0 rfl) <| x_as (eI rfl) (k0 rfl) <| lx_nil) (cw_blk (cw_blk ?_))
          obtain ⟨v75, hv75, h⟩ := bindE h
          refine cw_rg hnt rfl (x_mv (eI rfl) (k0 rfl) <| x_ai (eI rfl) (eI rfl) hv75 (k0 rfl) <| x_as (eI rfl) (k0 rfl) <| lx_nil) (cw_nil ?_)
          exact ⟨g1, _, Nat.lt_succ_self _, (to_ren (N := 0) (n' := 5) (L := [(0, tx p0), (3, .own 4 0 v73.length), (4, i64 v74), (5, i64 v75)]) (H := [(4, ob (v73 : List Str))]) (fun y => bif Nat.beq y 4 then 22 else y) [4] [] hn rfl rfl rfl fix0 (by decide) ⟨trv, (Tr.own rfl), trv, trv, trivial⟩ ⟨.inr ⟨rfl, _, rfl, tro⟩, trivial⟩), v74, v75, v73, h, rfl⟩
        · replace h := condF hb71 h
          refine cw_skip (cw_blk (cw_blk ?_))
          obtain ⟨v76, hv76, h⟩ := bindE h
          refine cw_rg hnt rfl (x_mv (eI rfl) (k0 rfl) <| x_ai (eI rfl) (eI rfl) hv76 (k0 rfl) <| x_as (eI rfl) (k0 rfl) <| lx_nil) (cw_nil ?_)
          exact ⟨g1, _, Nat.lt_succ_self _, (to_ren (N := 0) (n' := 5) (L := [(0, tx p0), (3, .own 4 0 v53.length), (4, i64 v54), (5, i64 v76)]) (H := [(4, ob (v53 : List Str))]) (id) [4] [] hn rfl rfl rfl fix0 (by decide) ⟨trv, (Tr.own rfl), trv, trv, trivial⟩ ⟨.inr ⟨rfl, _, rfl, tro⟩, trivial⟩), v54, v76, v53, h, rfl⟩
    · replace h := condF hb66 h
      refine cw_exit (cw_xc (cw_xt (cw_xb (cw_nil ?_))))
      exact ⟨_, (to_ren (N := 0) (n' := 9) (L := [(0, tx p0), (3, .own 4 0 v53.length), (4, i64 v54)]) (H := [(4, ob (v53 : List Str))]) (id) [4] [] hn rfl rfl rfl fix0 (by decide) ⟨trv, (Tr.own rfl), trv, trivial⟩ ⟨.inr ⟨rfl, _, rfl, tro⟩, trivial⟩), v54, v53, h, rfl⟩
  · rintro _ ⟨v38, v37, h, rfl⟩
    rw [r1_cut_k1] at h
    refine cw_seq ?_
    obtain ⟨v39, hv39, h⟩ := bindE h
    obtain ⟨v40, hv40, h⟩ := bindE h
    refine cw_rg hnt rfl (x_mv (eO rfl) (k0 rfl) <| x_mv (eT rfl) (k0 rfl) <| x_mv (eI rfl) (k0 rfl) <| x_slT T9 (eT rfl) rfl rfl hv39 (k0 rfl) <| x_bsA ([v39] : List Str) E27 rfl rfl (k0 rfl) <| x_apO (l1 := v37) E27 rfl rfl rfl (vlA' (l := ([v39] : List Str)) rfl rfl) hv40 (k0 rfl) <| x_as (eO rfl) (k0 rfl) <| lx_nil) (cw_to (to_fz 14 (L := [(2, ar v40)]) (H := []) (o := ob (v40 : List Str)) rfl ⟨fzO, trivial⟩ trivial) (cw_ret (cw_rn ?_)))
    cases h
    exact ⟨rfl, sub0⟩

theorem c_r1_hex (p0 : UInt8) (r : Int) (h : s_r1_hex p0 = some r) : Pu Tryz.prog 89 [u8 p0] (i64 r) := by
  refine ⟨(nfc nfv nfn), nfv, fs_start _ _ Tryz.func89 rfl Tryz.ntmps89 Tryz.results89 rfl fun X hnt hn => ?_⟩
  rw [s_r1_hex] at h
  refine cw_seq (cw_rg hnt rfl (x_as (eI rfl) (k0 rfl) <| lx_nil) (cw_seq (cw_block (cw_seq ?_))))
  obtain ⟨v2, hq, h⟩ := bindE h
  refine cw_rl [(3, bo v2)] (D := [4, 5, 6, 7, 8, 9, 3]) hnt rfl rfl (by
    rcases Bool.eq_false_or_eq_true ((decide (48 ≤ p0))) with hb1 | hb1
    · replace hq := condT hb1 hq
      replace hq := Option.some.inj hq
      subst hq
      exact ⟨_, _, x_mv (eU p0 rfl) (k0 rfl) <| x_cu (eU p0 rfl) (eU 48 rfl) rfl (k0 rfl) <| x_mv (eB rfl) (k0 rfl) <| x_mv (eU p0 rfl) (k1 rfl rfl rfl (congrArg bo hb1)) <| x_cu (eU p0 rfl) (eU 57 rfl) rfl (k1 rfl rfl rfl (congrArg bo hb1)) <| x_pt rfl hb1 (eB rfl) (k0 rfl) <| x_as (eB rfl) (k0 rfl) <| lx_nil, ⟨rfl, trivial⟩⟩
    · replace hq := condF hb1 hq
      replace hq := Option.some.inj hq
      subst hq
      exact ⟨_, _, x_mv (eU p0 rfl) (k0 rfl) <| x_cu (eU p0 rfl) (eU 48 rfl) rfl (k0 rfl) <| x_mv (eB rfl) (k0 rfl) <| lx_off rfl rfl (congrArg bo hb1) rfl <| lx_off rfl rfl (congrArg bo hb1) rfl <| x_pf rfl hb1 (eB rfl) (k0 rfl) <| x_as (eB rfl) (k0 rfl) <| lx_nil, ⟨rfl, trivial⟩⟩) ?_
  refine cw_cond rfl (fun hb3 => ?_) (fun hb3 => ?_)
  · replace h := condT hb3 h
    refine cw_seq (cw_rg hnt rfl (x_mv (eU p0 rfl) (k0 rfl) <| x_au (eU p0 rfl) (eU 48 rfl) rfl (k0 rfl) <| x_cvUI U5 W3 (eU (p0 - 48) rfl) (k0 rfl) <| x_as (eI rfl) (k0 rfl) <| lx_nil) (cw_ret (cw_rb (cw_rc (cw_rn ?_)))))
    cases h
    exact ⟨rfl, sub0⟩
  · replace h := condF hb3 h
    refine cw_seq ?_
    obtain ⟨v5, hq, h⟩ := bindE h
    refine cw_rl [(13, bo v5)] (D := [14, 15, 16, 17, 18, 19, 13]) hnt rfl rfl (by
      rcases Bool.eq_false_or_eq_true ((decide (97 ≤ p0))) with hb4 | hb4
      · replace hq := condT hb4 hq
        replace hq := Option.some.inj hq
        subst hq
        exact ⟨_, _, x_mv (eU p0 rfl) (k0 rfl) <| x_cu (eU p0 rfl) (eU 97 rfl) rfl (k0 rfl) <| x_mv (eB rfl) (k0 rfl) <| x_mv (eU p0 rfl) (k1 rfl rfl rfl (congrArg bo hb4)) <| x_cu (eU p0 rfl) (eU 102 rfl) rfl (k1 rfl rfl rfl (congrArg bo hb4)) <| x_pt rfl hb4 (eB rfl) (k0 rfl) <| x_as (eB rfl) (k0 rfl) <| lx_nil, ⟨rfl, trivial⟩⟩
      · replace hq := condF hb4 hq
        replace hq := Option.some.inj hq
        subst hq
        exact ⟨_, _, x_mv (eU p0 rfl) (k0 rfl) <| x_cu (eU p0 rfl) (eU 97 rfl) rfl (k0 rfl) <| x_mv (eB rfl) (k0 rfl) <| lx_off rfl rfl (congrArg bo hb4) rfl <| lx_off rfl rfl (congrArg bo hb4) rfl <| x_pf rfl hb4 (eB rfl) (k0 rfl) <| x_as (eB rfl) (k0 rfl) <| lx_nil, ⟨rfl, trivial⟩⟩) ?_
    refine cw_cond rfl (fun hb6 => ?_) (fun hb6 => ?_)
    · replace h := condT hb6 h
      refine cw_seq ?_
      obtain ⟨v7, hv7, h⟩ := bindE h
      refine cw_rg hnt rfl (x_mv (eU p0 rfl) (k0 rfl) <| x_au (eU p0 rfl) (eU 97 rfl) rfl (k0 rfl) <| x_cvUI U5 W3 (eU (p0 - 97) rfl) (k0 rfl) <| x_ai (eI rfl) (eI rfl) hv7 (k0 rfl) <| x_as (eI rfl) (k0 rfl) <| lx_nil) (cw_ret (cw_rb (cw_rc (cw_rn ?_))))
      cases h
      exact ⟨rfl, sub0⟩
    · replace h := condF hb6 h
      refine cw_seq ?_
      obtain ⟨v9, hq, h⟩ := bindE h
      refine cw_rl [(24, bo v9)] (D := [25, 26, 27, 28, 29, 30, 24]) hnt rfl rfl (by
        rcases Bool.eq_false_or_eq_true ((decide (65 ≤ p0))) with hb8 | hb8
        · replace hq := condT hb8 hq
          replace hq := Option.some.inj hq
          subst hq
          exact ⟨_, _, x_mv (eU p0 rfl) (k0 rfl) <| x_cu (eU p0 rfl) (eU 65 rfl) rfl (k0 rfl) <| x_mv (eB rfl) (k0 rfl) <| x_mv (eU p0 rfl) (k1 rfl rfl rfl (congrArg bo hb8)) <| x_cu (eU p0 rfl) (eU 70 rfl) rfl (k1 rfl rfl rfl (congrArg bo hb8)) <| x_pt rfl hb8 (eB rfl) (k0 rfl) <| x_as (eB rfl) (k0 rfl) <| lx_nil, ⟨rfl, trivial⟩⟩
        · replace hq := condF hb8 hq
          replace hq := Option.some.inj hq
          subst hq
          exact ⟨_, _, x_mv (eU p0 rfl) (k0 rfl) <| x_cu (eU p0 rfl) (eU 65 rfl) rfl (k0 rfl) <| x_mv (eB rfl) (k0 rfl) <| lx_off rfl rfl (congrArg bo hb8) rfl <| lx_off rfl rfl (congrArg bo hb8) rfl <| x_pf rfl hb8 (eB rfl) (k0 rfl) <| x_as (eB rfl) (k0 rfl) <| lx_nil, ⟨rfl, trivial⟩⟩) ?_
      refine cw_cond rfl (fun hb10 => ?_) (fun hb10 => ?_)
      · replace h := condT hb10 h
        refine cw_seq ?_
        obtain ⟨v11, hv11, h⟩ := bindE h
        refine cw_rg hnt rfl (x_mv (eU p0 rfl) (k0 rfl) <| x_au (eU p0 rfl) (eU 65 rfl) rfl (k0 rfl) <| x_cvUI U5 W3 (eU (p0 - 65) rfl) (k0 rfl) <| x_ai (eI rfl) (eI rfl) hv11 (k0 rfl) <| x_as (eI rfl) (k0 rfl) <| lx_nil) (cw_ret (cw_rb (cw_rc (cw_rn ?_))))
        cases h
        exact ⟨rfl, sub0⟩
      · replace h := condF hb10 h
        refine cw_skip (cw_blk (cw_seq (cw_rg hnt rfl (x_as (eI rfl) (k0 rfl) <| lx_nil) (cw_ret (cw_rn ?_)))))
        cases h
        exact ⟨rfl, sub0⟩

theorem c_r1_in (p0 : Str) (p1 : UInt8) (r : Bool) (h : s_r1_in p0 p1 = some r) : Pu Tryz.prog 71 [tx p0, u8 p1] (bo r) := by
  refine ⟨(nfc nfv (nfc nfv nfn)), nfv, fs_start _ _ Tryz.func71 rfl Tryz.ntmps71 Tryz.results71 rfl fun X hnt hn => ?_⟩
  rw [s_r1_in] at h
  refine cw_seq (cw_rg hnt rfl (x_as (eB rfl) (k0 rfl) <| lx_nil) (cw_seq (cw_seq (cw_rg hnt rfl (x_as (eI rfl) (k0 rfl) <| lx_nil) ?_))))
  refine cw_cut (fun st => r1_in_k1 = some r ∧ st = ⟨ls [], hl [], 6⟩) ?_ ?_
  · skip
    refine cw_block (cw_to (to_ren (N := 0) (n' := 2) (L := [(0, tx p0), (1, u8 p1), (5, i64 0)]) (H := []) (id) [] [] hn rfl rfl rfl fix0 .nil ⟨trv, trv, trv, trivial⟩ trivial) ?_)
    refine cw_loop (fun g st => ∃ (v18 : Int), r1_in_l1 p0 p1 g v18 = some r ∧ st = ⟨ls [(0, tx p0), (1, u8 p1), (5, i64 v18)], hl [], 2⟩) FUEL ⟨0, h, rfl⟩ ?_
    rintro g _ ⟨v18, h, rfl⟩
    rcases g with _ | g1
    · rw [r1_in_l1] at h; cases h
    rw [r1_in_l1] at h
    refine cw_seq (cw_seq (cw_rg hnt rfl (x_mv (eI rfl) (k0 rfl) <| x_mv (eT rfl) (k0 rfl) <| x_lnT T9 (eT rfl) (k0 rfl) <| x_ci (eX (.val (.int .i64 v18)) rfl) (eX (.val (.int .i64 (p0.length : Int))) rfl) rfl (k0 rfl) <| lx_nil) ?_))
    refine cw_cond rfl (fun hb23 => ?_) (fun hb23 => ?_)
    · replace h := condT hb23 h
      refine cw_skip (cw_seq (cw_block (cw_seq ?_)))
      obtain ⟨v24, hv24, h⟩ := bindE h
      refine cw_rg hnt rfl (x_mv (eT rfl) (k0 rfl) <| x_mv (eI rfl) (k0 rfl) <| x_ixT T9 (eT rfl) rfl hv24 (k0 rfl) <| x_mv (eU p1 rfl) (k0 rfl) <| x_cu (eU v24 rfl) (eU p1 rfl) rfl (k0 rfl) <| lx_nil) ?_
      refine cw_cond rfl (fun hb25 => ?_) (fun hb25 => ?_)
      · replace h := condT hb25 h
        refine cw_seq (cw_rg hnt rfl (x_as (eB rfl) (k0 rfl) <| lx_nil) (cw_ret (cw_rb (cw_rc (cw_rt (cw_rb (cw_rt (cw_rc (cw_rn ?_)))))))))
        cases h
        exact ⟨rfl, sub0⟩
      · replace h := condF hb25 h
        refine cw_skip (cw_blk ?_)
        obtain ⟨v26, hv26, h⟩ := bindE h
        refine cw_rg hnt rfl (x_mv (eI rfl) (k0 rfl) <| x_ai (eI rfl) (eI rfl) hv26 (k0 rfl) <| x_as (eI rfl) (k0 rfl) <| lx_nil) (cw_nil ?_)
        exact ⟨g1, _, Nat.lt_succ_self _, (to_ren (N := 0) (n' := 2) (L := [(0, tx p0), (1, u8 p1), (5, i64 v26)]) (H := []) (id) [] [] hn rfl rfl rfl fix0 .nil ⟨trv, trv, trv, trivial⟩ trivial), v26, h, rfl⟩
    · replace h := condF hb23 h
      refine cw_exit (cw_xc (cw_xt (cw_xb (cw_nil ?_))))
      exact ⟨_, (to_ren (N := 0) (n' := 6) (L := []) (H := []) (id) [] [] hn rfl rfl rfl fix0 .nil trivial trivial), h, rfl⟩
  · rintro _ ⟨h, rfl⟩
    rw [r1_in_k1] at h
    refine cw_seq (cw_rg hnt rfl (x_as (eB rfl) (k0 rfl) <| lx_nil) (cw_ret (cw_rn ?_)))
    cases h
    exact ⟨rfl, sub0⟩

theorem c_r1_value (p0 : Str) (r : Str × Bool) (h : s_r1_value p0 = some r) : Pu Tryz.prog 61 [tx p0] (.tup [tx r.1, bo r.2]) := by
  refine ⟨(nfc nfv nfn), (NF.tup (nfc nfv (nfc nfv nfn))), fs_start _ _ Tryz.func61 rfl Tryz.ntmps61 Tryz.results61 rfl fun X hnt hn => ?_⟩
  rw [s_r1_value] at h
  refine cw_seq (cw_rg hnt rfl (x_as (eT rfl) (k0 rfl) <| x_as (eB rfl) (k0 rfl) <| lx_nil) (cw_seq (cw_rg hnt rfl (x_as (eV rfl) (k0 rfl) <| lx_nil) (cw_seq (cw_seq (cw_rg hnt rfl (x_as (eI rfl) (k0 rfl) <| lx_nil) ?_))))))
  refine cw_cut (fun st => ∃ (v159 : Str), r1_value_k1 v159 = some r ∧ st = ⟨ls [(4, .own 4 0 v159.length)], hl [(4, ob (v159 : Str))], 9⟩) ?_ ?_
  · skip
    refine cw_block (cw_to (to_ren (N := 0) (n' := 5) (L := [(0, tx p0), (4, .own 4 0 0), (5, i64 0)]) (H := [(4, ob ([] : Str))]) (id) [] [4] hn rfl rfl rfl fix0 .nil ⟨trv, (Tr.nilOwn rfl), trv, trivial⟩ ⟨.inl ⟨rfl, rfl⟩, trivial⟩) ?_)
    refine cw_loop (fun g st => ∃ (v213 : Int) (v212 : Str), r1_value_l1 p0 g v213 v212 = some r ∧ st = ⟨ls [(0, tx p0), (4, .own 4 0 v212.length), (5, i64 v213)], hl [(4, ob (v212 : Str))], 5⟩) FUEL ⟨0, [], h, rfl⟩ ?_
    rintro g _ ⟨v213, v212, h, rfl⟩
    rcases g with _ | g1
    · rw [r1_value_l1] at h; cases h
    rw [r1_value_l1] at h
    refine cw_seq (cw_seq (cw_rg hnt rfl (x_mv (eI rfl) (k0 rfl) <| x_mv (eT rfl) (k0 rfl) <| x_lnT T9 (eT rfl) (k0 rfl) <| x_ci (eX (.val (.int .i64 v213)) rfl) (eX (.val (.int .i64 (p0.length : Int))) rfl) rfl (k0 rfl) <| lx_nil) ?_))
    refine cw_cond rfl (fun hb266 => ?_) (fun hb266 => ?_)
    · replace h := condT hb266 h
      refine cw_skip (cw_seq (cw_block (cw_seq ?_)))
      obtain ⟨v267, hv267, h⟩ := bindE h
      refine cw_rg hnt rfl (x_mv (eT rfl) (k0 rfl) <| x_mv (eI rfl) (k0 rfl) <| x_ixT T9 (eT rfl) rfl hv267 (k0 rfl) <| x_as (eU v267 rfl) (k0 rfl) <| lx_nil) (cw_seq (cw_seq (cw_rg hnt rfl (x_mv (eU v267 rfl) (k0 rfl) <| x_cu (eU v267 rfl) (eU 92 rfl) rfl (k0 rfl) <| lx_nil) ?_)))
      refine cw_cond rfl (fun hb268 => ?_) (fun hb268 => ?_)
      · replace h := condT hb268 h
        refine cw_seq (cw_seq ?_)
        obtain ⟨v278, hq, h⟩ := bindE h
        refine cw_rl [(38, bo v278)] (D := [18, 19, 20, 21, 22, 23, 24, 25, 26, 27, 28, 29, 30, 31, 32, 33, 34, 35, 36, 37, 38]) hnt rfl rfl (by
          obtain ⟨v269, hv269, hq⟩ := bindE hq
          rcases Bool.eq_false_or_eq_true ((decide (v269 < (p0.length : Int)))) with hb270 | hb270
          · replace hq := condT hb270 hq
            obtain ⟨v271, hv271, hq⟩ := bindE hq
            obtain ⟨v272, hv272, hq⟩ := bindE hq
            obtain ⟨v273, hv273, hq⟩ := bindE hq
            rcases Bool.eq_false_or_eq_true ((decide (v273 ≥ 0))) with hb274 | hb274
            · replace hq := condT hb274 hq
              obtain ⟨v275, hv275, hq⟩ := bindE hq
              obtain ⟨v276, hv276, hq⟩ := bindE hq
              obtain ⟨v277, hv277, hq⟩ := bindE hq
              replace hq := Option.some.inj hq
              subst hq
              exact ⟨_, _, x_mv (eI rfl) (k0 rfl) <| x_ai (eI rfl) (eI rfl) hv269 (k0 rfl) <| x_mv (eT rfl) (k0 rfl) <| x_lnT T9 (eT rfl) (k0 rfl) <| x_ci (eX (.val (.int .i64 v269)) rfl) (eX (.val (.int .i64 (p0.length : Int))) rfl) rfl (k0 rfl) <| x_mv (eB rfl) (k0 rfl) <| x_mv (eT rfl) (k1 rfl rfl rfl (congrArg bo hb270)) <| x_mv (eI rfl) (k1 rfl rfl rfl (congrArg bo hb270)) <| x_ai (eI rfl) (eI rfl) hv271 (k1 rfl rfl rfl (congrArg bo hb270)) <| x_ixT T9 (eT rfl) rfl hv272 (k1 rfl rfl rfl (congrArg bo hb270)) <| x_pu (eF rfl) P89 (c_r1_hex v272 v273 hv273) rfl (k1 rfl rfl rfl (congrArg bo hb270)) <| x_ci (eX (.val (.int .i64 v273)) rfl) (eX (.val (.int .i64 0)) rfl) rfl (k1 rfl rfl rfl (congrArg bo hb270)) <| x_pt rfl hb270 (eB rfl) (k0 rfl) <| x_mv (eB rfl) (k0 rfl) <| x_mv (eT rfl) (k1 rfl rfl rfl (congrArg bo hb274)) <| x_mv (eI rfl) (k1 rfl rfl rfl (congrArg bo hb274)) <| x_ai (eI rfl) (eI rfl) hv275 (k1 rfl rfl rfl (congrArg bo hb274)) <| x_ixT T9 (eT rfl) rfl hv276 (k1 rfl rfl rfl (congrArg bo hb274)) <| x_pu (eF rfl) P89 (c_r1_hex v276 v277 hv277) rfl (k1 rfl rfl rfl (congrArg bo hb274)) <| x_ci (eX (.val (.int .i64 v277)) rfl) (eX (.val (.int .i64 0)) rfl) rfl (k1 rfl rfl rfl (congrArg bo hb274)) <| x_pt rfl hb274 (eB rfl) (k0 rfl) <| lx_nil, ⟨rfl, trivial⟩⟩
            · replace hq := condF hb274 hq
              replace hq := Option.some.inj hq
              subst hq
              exact ⟨_, _, x_mv (eI rfl) (k0 rfl) <| x_ai (eI rfl) (eI rfl) hv269 (k0 rfl) <| x_mv (eT rfl) (k0 rfl) <| x_lnT T9 (eT rfl) (k0 rfl) <| x_ci (eX (.val (.int .i64 v269)) rfl) (eX (.val (.int .i64 (p0.length : Int))) rfl) rfl (k0 rfl) <| x_mv (eB rfl) (k0 rfl) <| x_mv (eT rfl) (k1 rfl rfl rfl (congrArg bo hb270)) <| x_mv (eI rfl) (k1 rfl rfl rfl (congrArg bo hb270)) <| x_ai (eI rfl) (eI rfl) hv271 (k1 rfl rfl rfl (congrArg bo hb270)) <| x_ixT T9 (eT rfl) rfl hv272 (k1 rfl rfl rfl (congrArg bo hb270)) <| x_pu (eF rfl) P89 (c_r1_hex v272 v273 hv273) rfl (k1 rfl rfl rfl (congrArg bo hb270)) <| x_ci (eX (.val (.int .i64 v273)) rfl) (eX (.val (.int .i64 0)) rfl) rfl (k1 rfl rfl rfl (congrArg bo hb270)) <| x_pt rfl hb270 (eB rfl) (k0 rfl) <| x_mv (eB rfl) (k0 rfl) <| lx_off rfl rfl (congrArg bo hb274) rfl <| lx_off rfl rfl (congrArg bo hb274) rfl <| lx_off rfl rfl (congrArg bo hb274) rfl <| lx_off rfl rfl (congrArg bo hb274) rfl <| lx_off rfl rfl (congrArg bo hb274) rfl <| lx_off rfl rfl (congrArg bo hb274) rfl <| x_pf rfl hb274 (eB rfl) (k0 rfl) <| lx_nil, ⟨rfl, trivial⟩⟩
          · replace hq := condF hb270 hq
            replace hq := Option.some.inj hq
            subst hq
            exact ⟨_, _, x_mv (eI rfl) (k0 rfl) <| x_ai (eI rfl) (eI rfl) hv269 (k0 rfl) <| x_mv (eT rfl) (k0 rfl) <| x_lnT T9 (eT rfl) (k0 rfl) <| x_ci (eX (.val (.int .i64 v269)) rfl) (eX (.val (.int .i64 (p0.length : Int))) rfl) rfl (k0 rfl) <| x_mv (eB rfl) (k0 rfl) <| lx_off rfl rfl (congrArg bo hb270) rfl <| lx_off rfl rfl (congrArg bo hb270) rfl <| lx_off rfl rfl (congrArg bo hb270) rfl <| lx_off rfl rfl (congrArg bo hb270) rfl <| lx_off rfl rfl (congrArg bo hb270) rfl <| lx_off rfl rfl (congrArg bo hb270) rfl <| x_pf rfl hb270 (eB rfl) (k0 rfl) <| x_mv (eB rfl) (k0 rfl) <| lx_off rfl rfl rfl rfl <| lx_off rfl rfl rfl rfl <| lx_off rfl rfl rfl rfl <| lx_off rfl rfl rfl rfl <| lx_off rfl rfl rfl rfl <| lx_off rfl rfl rfl rfl <| x_pf rfl rfl (eB rfl) (k0 rfl) <| lx_nil, ⟨rfl, trivial⟩⟩) ?_
        refine cw_cond rfl (fun hb279 => ?_) (fun hb279 => ?_)
        · replace h := condT hb279 h
          refine cw_seq ?_
          obtain ⟨v280, hv280, h⟩ := bindE h
          obtain ⟨v281, hv281, h⟩ := bindE h
          obtain ⟨v282, hv282, h⟩ := bindE h
          obtain ⟨v283, hv283, h⟩ := bindE h
          obtain ⟨v284, hv284, h⟩ := bindE h
          obtain ⟨v285, hv285, h⟩ := bindE h
          obtain ⟨v286, hv286, h⟩ := bindE h
          obtain ⟨v287, hv287, h⟩ := bindE h
          obtain ⟨v288, hv288, h⟩ := bindE h
          refine cw_ra [4] [] [] [15, 16] hnt rfl Tryz.mixed (by kernel_rfl) rfl (by decide) (x_mv (eO rfl) (k0 rfl) <| x_mv (eT rfl) (k0 rfl) <| x_mv (eI rfl) (k0 rfl) <| x_ai (eI rfl) (eI rfl) hv280 (k0 rfl) <| x_ixT T9 (eT rfl) rfl hv281 (k0 rfl) <| x_pu (eF rfl) P89 (c_r1_hex v281 v282 hv282) rfl (k0 rfl) <| x_ai (eI rfl) (eI rfl) hv283 (k0 rfl) <| x_mv (eT rfl) (k0 rfl) <| x_mv (eI rfl) (k0 rfl) <| x_ai (eI rfl) (eI rfl) hv284 (k0 rfl) <| x_ixT T9 (eT rfl) rfl hv285 (k0 rfl) <| x_pu (eF rfl) P89 (c_r1_hex v285 v286 hv286) rfl (k0 rfl) <| x_ai (eI rfl) (eI rfl) hv287 (k0 rfl) <| x_cvZU U3 W5 (eZ rfl) (k0 rfl) <| x_bsA ([(toU8 v287)] : Str) E38 rfl rfl (k0 rfl) <| x_apO (l1 := v212) E38 rfl rfl rfl (vlA' (l := ([(toU8 v287)] : Str)) rfl rfl) hv288 (k0 rfl) <| x_as (eO rfl) (k0 rfl) <| lx_nil) (cw_seq ?_)
          obtain ⟨v289, hv289, h⟩ := bindE h
          refine cw_rg hnt rfl (x_mv (eI rfl) (k0 rfl) <| x_ai (eI rfl) (eI rfl) hv289 (k0 rfl) <| x_as (eI rfl) (k0 rfl) <| lx_nil) (cw_exit (cw_xc (cw_xc (cw_xb ?_))))
          obtain ⟨v290, hv290, h⟩ := bindE h
          refine cw_rg hnt rfl (x_mv (eI rfl) (k0 rfl) <| x_ai (eI rfl) (eI rfl) hv290 (k0 rfl) <| x_as (eI rfl) (k0 rfl) <| lx_nil) (cw_nil ?_)
          exact ⟨g1, _, Nat.lt_succ_self _, (to_ren (N := 0) (n' := 5) (L := [(0, tx p0), (4, .own 4 0 v288.length), (5, i64 v290)]) (H := [(4, ob (v288 : Str))]) (fun y => bif Nat.beq y 4 then 51 else y) [4] [] hn rfl rfl rfl fix0 (by decide) ⟨trv, (Tr.own rfl), trv, trivial⟩ ⟨.inr ⟨rfl, _, rfl, tro⟩, trivial⟩), v290, v288, h, rfl⟩
        · replace h := condF hb279 h
          refine cw_skip (cw_seq (cw_seq ?_))
          obtain ⟨v296, hq, h⟩ := bindE h
          refine cw_rl [(69, bo v296)] (D := [57, 58, 59, 60, 61, 62, 63, 64, 65, 66, 67, 68, 69]) hnt rfl rfl (by
            obtain ⟨v291, hv291, hq⟩ := bindE hq
            rcases Bool.eq_false_or_eq_true ((decide (v291 ≥ (p0.length : Int)))) with hb292 | hb292
            · replace hq := condT hb292 hq
              replace hq := Option.some.inj hq
              subst hq
              exact ⟨_, _, x_mv (eI rfl) (k0 rfl) <| x_ai (eI rfl) (eI rfl) hv291 (k0 rfl) <| x_mv (eT rfl) (k0 rfl) <| x_lnT T9 (eT rfl) (k0 rfl) <| x_ci (eX (.val (.int .i64 v291)) rfl) (eX (.val (.int .i64 (p0.length : Int))) rfl) rfl (k0 rfl) <| x_mv (eB rfl) (k0 rfl) <| lx_off rfl rfl (congrArg bo hb292) rfl <| lx_off rfl rfl (congrArg bo hb292) rfl <| lx_off rfl rfl (congrArg bo hb292) rfl <| lx_off rfl rfl (congrArg bo hb292) rfl <| lx_off rfl rfl (congrArg bo hb292) rfl <| lx_off rfl rfl (congrArg bo hb292) rfl <| x_pt rfl hb292 (eB rfl) (k0 rfl) <| lx_nil, ⟨rfl, trivial⟩⟩
            · replace hq := condF hb292 hq
              obtain ⟨v293, hv293, hq⟩ := bindE hq
              obtain ⟨v294, hv294, hq⟩ := bindE hq
              obtain ⟨v295, hv295, hq⟩ := bindE hq
              replace hq := Option.some.inj hq
              subst hq
              exact ⟨_, _, x_mv (eI rfl) (k0 rfl) <| x_ai (eI rfl) (eI rfl) hv291 (k0 rfl) <| x_mv (eT rfl) (k0 rfl) <| x_lnT T9 (eT rfl) (k0 rfl) <| x_ci (eX (.val (.int .i64 v291)) rfl) (eX (.val (.int .i64 (p0.length : Int))) rfl) rfl (k0 rfl) <| x_mv (eB rfl) (k0 rfl) <| x_mv (eT rfl) (k1 rfl rfl rfl (congrArg bo hb292)) <| x_mv (eI rfl) (k1 rfl rfl rfl (congrArg bo hb292)) <| x_ai (eI rfl) (eI rfl) hv293 (k1 rfl rfl rfl (congrArg bo hb292)) <| x_ixT T9 (eT rfl) rfl hv294 (k1 rfl rfl rfl (congrArg bo hb292)) <| x_pu (eF rfl) P71 (c_r1_in k_x2c2b225c3c3e3b3d2320 v294 v295 hv295) rfl (k1 rfl rfl rfl (congrArg bo hb292)) <| x_not (eB rfl) (k1 rfl rfl rfl (congrArg bo hb292)) <| x_pf rfl hb292 (eB rfl) (k0 rfl) <| lx_nil, ⟨rfl, trivial⟩⟩) ?_
          refine cw_cond rfl (fun hb297 => ?_) (fun hb297 => ?_)
          · replace h := condT hb297 h
            refine cw_seq (cw_rg hnt rfl (x_as (eT rfl) (k0 rfl) <| x_as (eB rfl) (k0 rfl) <| lx_nil) (cw_ret (cw_rc (cw_rc (cw_rb (cw_rc (cw_rt (cw_rb (cw_rt (cw_rc (cw_rn ?_)))))))))))
            cases h
            exact ⟨rfl, sub0⟩
          · replace h := condF hb297 h
            refine cw_skip (cw_seq ?_)
            obtain ⟨v298, hv298, h⟩ := bindE h
            obtain ⟨v299, hv299, h⟩ := bindE h
            obtain ⟨v300, hv300, h⟩ := bindE h
            refine cw_rg hnt rfl (x_mv (eO rfl) (k0 rfl) <| x_mv (eT rfl) (k0 rfl) <| x_mv (eI rfl) (k0 rfl) <| x_ai (eI rfl) (eI rfl) hv298 (k0 rfl) <| x_ixT T9 (eT rfl) rfl hv299 (k0 rfl) <| x_bsA ([v299] : Str) E38 rfl rfl (k0 rfl) <| x_apO (l1 := v212) E38 rfl rfl rfl (vlA' (l := ([v299] : Str)) rfl rfl) hv300 (k0 rfl) <| x_as (eO rfl) (k0 rfl) <| lx_nil) (cw_seq ?_)
            obtain ⟨v301, hv301, h⟩ := bindE h
            refine cw_rg hnt rfl (x_mv (eI rfl) (k0 rfl) <| x_ai (eI rfl) (eI rfl) hv301 (k0 rfl) <| x_as (eI rfl) (k0 rfl) <| lx_nil) (cw_exit (cw_xc (cw_xb ?_)))
            obtain ⟨v302, hv302, h⟩ := bindE h
            refine cw_rg hnt rfl (x_mv (eI rfl) (k0 rfl) <| x_ai (eI rfl) (eI rfl) hv302 (k0 rfl) <| x_as (eI rfl) (k0 rfl) <| lx_nil) (cw_nil ?_)
            exact ⟨g1, _, Nat.lt_succ_self _, (to_ren (N := 0) (n' := 5) (L := [(0, tx p0), (4, .own 4 0 v300.length), (5, i64 v302)]) (H := [(4, ob (v300 : Str))]) (fun y => bif Nat.beq y 4 then 55 else y) [4] [] hn rfl rfl rfl fix0 (by decide) ⟨trv, (Tr.own rfl), trv, trivial⟩ ⟨.inr ⟨rfl, _, rfl, tro⟩, trivial⟩), v302, v300, h, rfl⟩
      · replace h := condF hb268 h
        refine cw_skip (cw_seq (cw_seq ?_))
        obtain ⟨v314, hq, h⟩ := bindE h
        refine cw_rl [(111, bo v314)] (D := [79, 80, 81, 82, 83, 84, 85, 86, 87, 88, 89, 90, 91, 92, 93, 94, 95, 96, 97, 98, 99, 100, 101, 102, 103, 104, 105, 106, 107, 108, 109, 110, 111]) hnt rfl rfl (by
          rcases Bool.eq_false_or_eq_true ((decide (v267 < 32))) with hb303 | hb303
          · replace hq := condT hb303 hq
            replace hq := Option.some.inj hq
            subst hq
            exact ⟨_, _, x_mv (eU v267 rfl) (k0 rfl) <| x_cu (eU v267 rfl) (eU 32 rfl) rfl (k0 rfl) <| x_mv (eB rfl) (k0 rfl) <| lx_off rfl rfl (congrArg bo hb303) rfl <| lx_off rfl rfl (congrArg bo hb303) rfl <| x_pt rfl hb303 (eB rfl) (k0 rfl) <| x_mv (eB rfl) (k0 rfl) <| lx_off rfl rfl rfl rfl <| lx_off rfl rfl rfl rfl <| x_pt rfl rfl (eB rfl) (k0 rfl) <| x_mv (eB rfl) (k0 rfl) <| lx_off rfl rfl rfl rfl <| lx_off rfl rfl rfl rfl <| lx_off rfl rfl rfl rfl <| lx_dead rfl rfl rfl rfl <| lx_dead rfl rfl rfl rfl <| lx_dead rfl rfl rfl rfl <| lx_dead rfl rfl rfl rfl <| lx_dead rfl rfl rfl rfl <| lx_dead rfl rfl rfl rfl <| lx_off rfl rfl rfl rfl <| x_pt rfl rfl (eB rfl) (k0 rfl) <| x_mv (eB rfl) (k0 rfl) <| lx_off rfl rfl rfl rfl <| lx_off rfl rfl rfl rfl <| lx_off rfl rfl rfl rfl <| lx_off rfl rfl rfl rfl <| lx_off rfl rfl rfl rfl <| lx_off rfl rfl rfl rfl <| lx_dead rfl rfl rfl rfl <| lx_dead rfl rfl rfl rfl <| lx_off rfl rfl rfl rfl <| x_pt rfl rfl (eB rfl) (k0 rfl) <| lx_nil, ⟨rfl, trivial⟩⟩
          · replace hq := condF hb303 hq
            rcases Bool.eq_false_or_eq_true ((decide (126 < v267))) with hb304 | hb304
            · replace hq := condT hb304 hq
              replace hq := Option.some.inj hq
              subst hq
              exact ⟨_, _, x_mv (eU v267 rfl) (k0 rfl) <| x_cu (eU v267 rfl) (eU 32 rfl) rfl (k0 rfl) <| x_mv (eB rfl) (k0 rfl) <| x_mv (eU v267 rfl) (k1 rfl rfl rfl (congrArg bo hb303)) <| x_cu (eU v267 rfl) (eU 126 rfl) rfl (k1 rfl rfl rfl (congrArg bo hb303)) <| x_pf rfl hb303 (eB rfl) (k0 rfl) <| x_mv (eB rfl) (k0 rfl) <| lx_off rfl rfl (congrArg bo hb304) rfl <| lx_off rfl rfl (congrArg bo hb304) rfl <| x_pt rfl hb304 (eB rfl) (k0 rfl) <| x_mv (eB rfl) (k0 rfl) <| lx_off rfl rfl rfl rfl <| lx_off rfl rfl rfl rfl <| lx_off rfl rfl rfl rfl <| lx_dead rfl rfl rfl rfl <| lx_dead rfl rfl rfl rfl <| lx_dead rfl rfl rfl rfl <| lx_dead rfl rfl rfl rfl <| lx_dead rfl rfl rfl rfl <| lx_dead rfl rfl rfl rfl <| lx_off rfl rfl rfl rfl <| x_pt rfl rfl (eB rfl) (k0 rfl) <| x_mv (eB rfl) (k0 rfl) <| lx_off rfl rfl rfl rfl <| lx_off rfl rfl rfl rfl <| lx_off rfl rfl rfl rfl <| lx_off rfl rfl rfl rfl <| lx_off rfl rfl rfl rfl <| lx_off rfl rfl rfl rfl <| lx_dead rfl rfl rfl rfl <| lx_dead rfl rfl rfl rfl <| lx_off rfl rfl rfl rfl <| x_pt rfl rfl (eB rfl) (k0 rfl) <| lx_nil, ⟨rfl, trivial⟩⟩
            · replace hq := condF hb304 hq
              obtain ⟨v305, hv305, hq⟩ := bindE hq
              rcases Bool.eq_false_or_eq_true (v305) with hb306 | hb306
              · replace hq := condT hb306 hq
                replace hq := Option.some.inj hq
                subst hq
                exact ⟨_, _, x_mv (eU v267 rfl) (k0 rfl) <| x_cu (eU v267 rfl) (eU 32 rfl) rfl (k0 rfl) <| x_mv (eB rfl) (k0 rfl) <| x_mv (eU v267 rfl) (k1 rfl rfl rfl (congrArg bo hb303)) <| x_cu (eU v267 rfl) (eU 126 rfl) rfl (k1 rfl rfl rfl (congrArg bo hb303)) <| x_pf rfl hb303 (eB rfl) (k0 rfl) <| x_mv (eB rfl) (k0 rfl) <| x_mv (eU v267 rfl) (k1 rfl rfl rfl (congrArg bo hb304)) <| x_pu (eF rfl) P71 (c_r1_in k_x2c2b223c3e3b v267 v305 hv305) rfl (k1 rfl rfl rfl (congrArg bo hb304)) <| x_pf rfl hb304 (eB rfl) (k0 rfl) <| x_mv (eB rfl) (k0 rfl) <| lx_off rfl rfl (congrArg bo hb306) rfl <| lx_off rfl rfl (congrArg bo hb306) rfl <| lx_off rfl rfl (congrArg bo hb306) rfl <| lx_dead rfl rfl rfl rfl <| lx_dead rfl rfl rfl rfl <| lx_dead rfl rfl rfl rfl <| lx_dead rfl rfl rfl rfl <| lx_dead rfl rfl rfl rfl <| lx_dead rfl rfl rfl rfl <| lx_off rfl rfl (congrArg bo hb306) rfl <| x_pt rfl hb306 (eB rfl) (k0 rfl) <| x_mv (eB rfl) (k0 rfl) <| lx_off rfl rfl rfl rfl <| lx_off rfl rfl rfl rfl <| lx_off rfl rfl rfl rfl <| lx_off rfl rfl rfl rfl <| lx_off rfl rfl rfl rfl <| lx_off rfl rfl rfl rfl <| lx_dead rfl rfl rfl rfl <| lx_dead rfl rfl rfl rfl <| lx_off rfl rfl rfl rfl <| x_pt rfl rfl (eB rfl) (k0 rfl) <| lx_nil, ⟨rfl, trivial⟩⟩
              · replace hq := condF hb306 hq
                rcases Bool.eq_false_or_eq_true ((v213 == 0)) with hb307 | hb307
                · replace hq := condT hb307 hq
                  rcases Bool.eq_false_or_eq_true ((v267 == 35)) with hb308 | hb308
                  · replace hq := condT hb308 hq
                    replace hq := Option.some.inj hq
                    subst hq
                    exact ⟨_, _, x_mv (eU v267 rfl) (k0 rfl) <| x_cu (eU v267 rfl) (eU 32 rfl) rfl (k0 rfl) <| x_mv (eB rfl) (k0 rfl) <| x_mv (eU v267 rfl) (k1 rfl rfl rfl (congrArg bo hb303)) <| x_cu (eU v267 rfl) (eU 126 rfl) rfl (k1 rfl rfl rfl (congrArg bo hb303)) <| x_pf rfl hb303 (eB rfl) (k0 rfl) <| x_mv (eB rfl) (k0 rfl) <| x_mv (eU v267 rfl) (k1 rfl rfl rfl (congrArg bo hb304)) <| x_pu (eF rfl) P71 (c_r1_in k_x2c2b223c3e3b v267 v305 hv305) rfl (k1 rfl rfl rfl (congrArg bo hb304)) <| x_pf rfl hb304 (eB rfl) (k0 rfl) <| x_mv (eB rfl) (k0 rfl) <| x_mv (eI rfl) (k1 rfl rfl rfl (congrArg bo hb306)) <| x_ci (eX (.val (.int .i64 v213)) rfl) (eX (.val (.int .i64 0)) rfl) rfl (k1 rfl rfl rfl (congrArg bo hb306)) <| x_mv (eB rfl) (k1 rfl rfl rfl (congrArg bo hb306)) <| x_mv (eU v267 rfl) (k1 rfl rfl rfl (congrArg bo hb307)) <| x_cu (eU v267 rfl) (eU 35 rfl) rfl (k1 rfl rfl rfl (congrArg bo hb307)) <| x_mv (eB rfl) (k1 rfl rfl rfl (congrArg bo hb307)) <| lx_off rfl rfl (congrArg bo hb308) rfl <| lx_off rfl rfl (congrArg bo hb308) rfl <| x_pt rfl hb308 (eB rfl) (k1 rfl rfl rfl (congrArg bo hb307)) <| x_pt rfl hb307 (eB rfl) (k1 rfl rfl rfl (congrArg bo hb306)) <| x_pf rfl hb306 (eB rfl) (k0 rfl) <| x_mv (eB rfl) (k0 rfl) <| lx_off rfl rfl rfl rfl <| lx_off rfl rfl rfl rfl <| lx_off rfl rfl rfl rfl <| lx_off rfl rfl rfl rfl <| lx_off rfl rfl rfl rfl <| lx_off rfl rfl rfl rfl <| lx_dead rfl rfl rfl rfl <| lx_dead rfl rfl rfl rfl <| lx_off rfl rfl rfl rfl <| x_pt rfl rfl (eB rfl) (k0 rfl) <| lx_nil, ⟨rfl, trivial⟩⟩
                  · replace hq := condF hb308 hq
                    rcases Bool.eq_false_or_eq_true ((v267 == 32)) with hb309 | hb309
                    · replace hq := condT hb309 hq
                      replace hq := Option.some.inj hq
                      subst hq
                      exact ⟨_, _, x_mv (eU v267 rfl) (k0 rfl) <| x_cu (eU v267 rfl) (eU 32 rfl) rfl (k0 rfl) <| x_mv (eB rfl) (k0 rfl) <| x_mv (eU v267 rfl) (k1 rfl rfl rfl (congrArg bo hb303)) <| x_cu (eU v267 rfl) (eU 126 rfl) rfl (k1 rfl rfl rfl (congrArg bo hb303)) <| x_pf rfl hb303 (eB rfl) (k0 rfl) <| x_mv (eB rfl) (k0 rfl) <| x_mv (eU v267 rfl) (k1 rfl rfl rfl (congrArg bo hb304)) <| x_pu (eF rfl) P71 (c_r1_in k_x2c2b223c3e3b v267 v305 hv305) rfl (k1 rfl rfl rfl (congrArg bo hb304)) <| x_pf rfl hb304 (eB rfl) (k0 rfl) <| x_mv (eB rfl) (k0 rfl) <| x_mv (eI rfl) (k1 rfl rfl rfl (congrArg bo hb306)) <| x_ci (eX (.val (.int .i64 v213)) rfl) (eX (.val (.int .i64 0)) rfl) rfl (k1 rfl rfl rfl (congrArg bo hb306)) <| x_mv (eB rfl) (k1 rfl rfl rfl (congrArg bo hb306)) <| x_mv (eU v267 rfl) (k1 rfl rfl rfl (congrArg bo hb307)) <| x_cu (eU v267 rfl) (eU 35 rfl) rfl (k1 rfl rfl rfl (congrArg bo hb307)) <| x_mv (eB rfl) (k1 rfl rfl rfl (congrArg bo hb307)) <| x_mv (eU v267 rfl) (k1 rfl rfl rfl (congrArg bo hb308)) <| x_cu (eU v267 rfl) (eU 32 rfl) rfl (k1 rfl rfl rfl (congrArg bo hb308)) <| x_pf rfl hb308 (eB rfl) (k1 rfl rfl rfl (congrArg bo hb307)) <| x_pt rfl hb307 (eB rfl) (k1 rfl rfl rfl (congrArg bo hb306)) <| x_pf rfl hb306 (eB rfl) (k0 rfl) <| x_mv (eB rfl) (k0 rfl) <| lx_off rfl rfl (congrArg bo hb309) rfl <| lx_off rfl rfl (congrArg bo hb309) rfl <| lx_off rfl rfl (congrArg bo hb309) rfl <| lx_off rfl rfl (congrArg bo hb309) rfl <| lx_off rfl rfl (congrArg bo hb309) rfl <| lx_off rfl rfl (congrArg bo hb309) rfl <| lx_dead rfl rfl rfl rfl <| lx_dead rfl rfl rfl rfl <| lx_off rfl rfl (congrArg bo hb309) rfl <| x_pt rfl hb309 (eB rfl) (k0 rfl) <| lx_nil, ⟨rfl, trivial⟩⟩
                    · replace hq := condF hb309 hq
                      obtain ⟨v310, hv310, hq⟩ := bindE hq
                      rcases Bool.eq_false_or_eq_true ((v213 == v310)) with hb311 | hb311
                      · replace hq := condT hb311 hq
                        replace hq := Option.some.inj hq
                        subst hq
                        exact ⟨_, _, x_mv (eU v267 rfl) (k0 rfl) <| x_cu (eU v267 rfl) (eU 32 rfl) rfl (k0 rfl) <| x_mv (eB rfl) (k0 rfl) <| x_mv (eU v267 rfl) (k1 rfl rfl rfl (congrArg bo hb303)) <| x_cu (eU v267 rfl) (eU 126 rfl) rfl (k1 rfl rfl rfl (congrArg bo hb303)) <| x_pf rfl hb303 (eB rfl) (k0 rfl) <| x_mv (eB rfl) (k0 rfl) <| x_mv (eU v267 rfl) (k1 rfl rfl rfl (congrArg bo hb304)) <| x_pu (eF rfl) P71 (c_r1_in k_x2c2b223c3e3b v267 v305 hv305) rfl (k1 rfl rfl rfl (congrArg bo hb304)) <| x_pf rfl hb304 (eB rfl) (k0 rfl) <| x_mv (eB rfl) (k0 rfl) <| x_mv (eI rfl) (k1 rfl rfl rfl (congrArg bo hb306)) <| x_ci (eX (.val (.int .i64 v213)) rfl) (eX (.val (.int .i64 0)) rfl) rfl (k1 rfl rfl rfl (congrArg bo hb306)) <| x_mv (eB rfl) (k1 rfl rfl rfl (congrArg bo hb306)) <| x_mv (eU v267 rfl) (k1 rfl rfl rfl (congrArg bo hb307)) <| x_cu (eU v267 rfl) (eU 35 rfl) rfl (k1 rfl rfl rfl (congrArg bo hb307)) <| x_mv (eB rfl) (k1 rfl rfl rfl (congrArg bo hb307)) <| x_mv (eU v267 rfl) (k1 rfl rfl rfl (congrArg bo hb308)) <| x_cu (eU v267 rfl) (eU 32 rfl) rfl (k1 rfl rfl rfl (congrArg bo hb308)) <| x_pf rfl hb308 (eB rfl) (k1 rfl rfl rfl (congrArg bo hb307)) <| x_pt rfl hb307 (eB rfl) (k1 rfl rfl rfl (congrArg bo hb306)) <| x_pf rfl hb306 (eB rfl) (k0 rfl) <| x_mv (eB rfl) (k0 rfl) <| x_mv (eI rfl) (k1 rfl rfl rfl (congrArg bo hb309)) <| x_mv (eT rfl) (k1 rfl rfl rfl (congrArg bo hb309)) <| x_lnT T9 (eT rfl) (k1 rfl rfl rfl (congrArg bo hb309)) <| x_ai (eI rfl) (eI rfl) hv310 (k1 rfl rfl rfl (congrArg bo hb309)) <| x_ci (eX (.val (.int .i64 v213)) rfl) (eX (.val (.int .i64 v310)) rfl) rfl (k1 rfl rfl rfl (congrArg bo hb309)) <| x_mv (eB rfl) (k1 rfl rfl rfl (congrArg bo hb309)) <| x_mv (eU v267 rfl) (k1 rfl rfl rfl (congrArg bo hb311)) <| x_cu (eU v267 rfl) (eU 32 rfl) rfl (k1 rfl rfl rfl (congrArg bo hb311)) <| x_pt rfl hb311 (eB rfl) (k1 rfl rfl rfl (congrArg bo hb309)) <| x_pf rfl hb309 (eB rfl) (k0 rfl) <| lx_nil, ⟨rfl, trivial⟩⟩
                      · replace hq := condF hb311 hq
                        replace hq := Option.some.inj hq
                        subst hq
                        exact ⟨_, _, x_mv (eU v267 rfl) (k0 rfl) <| x_cu (eU v267 rfl) (eU 32 rfl) rfl (k0 rfl) <| x_mv (eB rfl) (k0 rfl) <| x_mv (eU v267 rfl) (k1 rfl rfl rfl (congrArg bo hb303)) <| x_cu (eU v267 rfl) (eU 126 rfl) rfl (k1 rfl rfl rfl (congrArg bo hb303)) <| x_pf rfl hb303 (eB rfl) (k0 rfl) <| x_mv (eB rfl) (k0 rfl) <| x_mv (eU v267 rfl) (k1 rfl rfl rfl (congrArg bo hb304)) <| x_pu (eF rfl) P71 (c_r1_in k_x2c2b223c3e3b v267 v305 hv305) rfl (k1 rfl rfl rfl (congrArg bo hb304)) <| x_pf rfl hb304 (eB rfl) (k0 rfl) <| x_mv (eB rfl) (k0 rfl) <| x_mv (eI rfl) (k1 rfl rfl rfl (congrArg bo hb306)) <| x_ci (eX (.val (.int .i64 v213)) rfl) (eX (.val (.int .i64 0)) rfl) rfl (k1 rfl rfl rfl (congrArg bo hb306)) <| x_mv (eB rfl) (k1 rfl rfl rfl (congrArg bo hb306)) <| x_mv (eU v267 rfl) (k1 rfl rfl rfl (congrArg bo hb307)) <| x_cu (eU v267 rfl) (eU 35 rfl) rfl (k1 rfl rfl rfl (congrArg bo hb307)) <| x_mv (eB rfl) (k1 rfl rfl rfl (congrArg bo hb307)) <| x_mv (eU v267 rfl) (k1 rfl rfl rfl (congrArg bo hb308)) <| x_cu (eU v267 rfl) (eU 32 rfl) rfl (k1 rfl rfl rfl (congrArg bo hb308)) <| x_pf rfl hb308 (eB rfl) (k1 rfl rfl rfl (congrArg bo hb307)) <| x_pt rfl hb307 (eB rfl) (k1 rfl rfl rfl (congrArg bo hb306)) <| x_pf rfl hb306 (eB rfl) (k0 rfl) <| x_mv (eB rfl) (k0 rfl) <| x_mv (eI rfl) (k1 rfl rfl rfl (congrArg bo hb309)) <| x_mv (eT rfl) (k1 rfl rfl rfl (congrArg bo hb309)) <| x_lnT T9 (eT rfl) (k1 rfl rfl rfl (congrArg bo hb309)) <| x_ai (eI rfl) (eI rfl) hv310 (k1 rfl rfl rfl (congrArg bo hb309)) <| x_ci (eX (.val (.int .i64 v213)) rfl) (eX (.val (.int .i64 v310)) rfl) rfl (k1 rfl rfl rfl (congrArg bo hb309)) <| x_mv (eB rfl) (k1 rfl rfl rfl (congrArg bo hb309)) <| lx_off rfl rfl (congrArg bo hb311) rfl <| lx_off rfl rfl (congrArg bo hb311) rfl <| x_pf rfl hb311 (eB rfl) (k1 rfl rfl rfl (congrArg bo hb309)) <| x_pf rfl hb309 (eB rfl) (k0 rfl) <| lx_nil, ⟨rfl, trivial⟩⟩
                · replace hq := condF hb307 hq
                  obtain ⟨v312, hv312, hq⟩ := bindE hq
                  rcases Bool.eq_false_or_eq_true ((v213 == v312)) with hb313 | hb313
                  · replace hq := condT hb313 hq
                    replace hq := Option.some.inj hq
                    subst hq
                    exact ⟨_, _, x_mv (eU v267 rfl) (k0 rfl) <| x_cu (eU v267 rfl) (eU 32 rfl) rfl (k0 rfl) <| x_mv (eB rfl) (k0 rfl) <| x_mv (eU v267 rfl) (k1 rfl rfl rfl (congrArg bo hb303)) <| x_cu (eU v267 rfl) (eU 126 rfl) rfl (k1 rfl rfl rfl (congrArg bo hb303)) <| x_pf rfl hb303 (eB rfl) (k0 rfl) <| x_mv (eB rfl) (k0 rfl) <| x_mv (eU v267 rfl) (k1 rfl rfl rfl (congrArg bo hb304)) <| x_pu (eF rfl) P71 (c_r1_in k_x2c2b223c3e3b v267 v305 hv305) rfl (k1 rfl rfl rfl (congrArg bo hb304)) <| x_pf rfl hb304 (eB rfl) (k0 rfl) <| x_mv (eB rfl) (k0 rfl) <| x_mv (eI rfl) (k1 rfl rfl rfl (congrArg bo hb306)) <| x_ci (eX (.val (.int .i64 v213)) rfl) (eX (.val (.int .i64 0)) rfl) rfl (k1 rfl rfl rfl (congrArg bo hb306)) <| x_mv (eB rfl) (k1 rfl rfl rfl (congrArg bo hb306)) <| lx_off rfl rfl (congrArg bo hb307) rfl <| lx_off rfl rfl (congrArg bo hb307) rfl <| lx_off rfl rfl (congrArg bo hb307) rfl <| lx_dead rfl rfl rfl rfl <| lx_dead rfl rfl rfl rfl <| lx_off rfl rfl (congrArg bo hb307) rfl <| x_pf rfl hb307 (eB rfl) (k1 rfl rfl rfl (congrArg bo hb306)) <| x_pf rfl hb306 (eB rfl) (k0 rfl) <| x_mv (eB rfl) (k0 rfl) <| x_mv (eI rfl) (k1 rfl rfl rfl rfl) <| x_mv (eT rfl) (k1 rfl rfl rfl rfl) <| x_lnT T9 (eT rfl) (k1 rfl rfl rfl rfl) <| x_ai (eI rfl) (eI rfl) hv312 (k1 rfl rfl rfl rfl) <| x_ci (eX (.val (.int .i64 v213)) rfl) (eX (.val (.int .i64 v312)) rfl) rfl (k1 rfl rfl rfl rfl) <| x_mv (eB rfl) (k1 rfl rfl rfl rfl) <| x_mv (eU v267 rfl) (k1 rfl rfl rfl (congrArg bo hb313)) <| x_cu (eU v267 rfl) (eU 32 rfl) rfl (k1 rfl rfl rfl (congrArg bo hb313)) <| x_pt rfl hb313 (eB rfl) (k1 rfl rfl rfl rfl) <| x_pf rfl rfl (eB rfl) (k0 rfl) <| lx_nil, ⟨rfl, trivial⟩⟩
                  · replace hq := condF hb313 hq
                    replace hq := Option.some.inj hq
                    subst hq
                    exact ⟨_, _, x_mv (eU v267 rfl) (k0 rfl) <| x_cu (eU v267 rfl) (eU 32 rfl) rfl (k0 rfl) <| x_mv (eB rfl) (k0 rfl) <| x_mv (eU v267 rfl) (k1 rfl rfl rfl (congrArg bo hb303)) <| x_cu (eU v267 rfl) (eU 126 rfl) rfl (k1 rfl rfl rfl (congrArg bo hb303)) <| x_pf rfl hb303 (eB rfl) (k0 rfl) <| x_mv (eB rfl) (k0 rfl) <| x_mv (eU v267 rfl) (k1 rfl rfl rfl (congrArg bo hb304)) <| x_pu (eF rfl) P71 (c_r1_in k_x2c2b223c3e3b v267 v305 hv305) rfl (k1 rfl rfl rfl (congrArg bo hb304)) <| x_pf rfl hb304 (eB rfl) (k0 rfl) <| x_mv (eB rfl) (k0 rfl) <| x_mv (eI rfl) (k1 rfl rfl rfl (congrArg bo hb306)) <| x_ci (eX (.val (.int .i64 v213)) rfl) (eX (.val (.int .i64 0)) rfl) rfl (k1 rfl rfl rfl (congrArg bo hb306)) <| x_mv (eB rfl) (k1 rfl rfl rfl (congrArg bo hb306)) <| lx_off rfl rfl (congrArg bo hb307) rfl <| lx_off rfl rfl (congrArg bo hb307) rfl <| lx_off rfl rfl (congrArg bo hb307) rfl <| lx_dead rfl rfl rfl rfl <| lx_dead rfl rfl rfl rfl <| lx_off rfl rfl (congrArg bo hb307) rfl <| x_pf rfl hb307 (eB rfl) (k1 rfl rfl rfl (congrArg bo hb306)) <| x_pf rfl hb306 (eB rfl) (k0 rfl) <| x_mv (eB rfl) (k0 rfl) <| x_mv (eI rfl) (k1 rfl rfl rfl rfl) <| x_mv (eT rfl) (k1 rfl rfl rfl rfl) <| x_lnT T9 (eT rfl) (k1 rfl rfl rfl rfl) <| x_ai (eI rfl) (eI rfl) hv312 (k1 rfl rfl rfl rfl) <| x_ci (eX (.val (.int .i64 v213)) rfl) (eX (.val (.int .i64 v312)) rfl) rfl (k1 rfl rfl rfl rfl) <| x_mv (eB rfl) (k1 rfl rfl rfl rfl) <| lx_off rfl rfl (congrArg bo hb313) rfl <| lx_off rfl rfl (congrArg bo hb313) rfl <| x_pf rfl hb313 (eB rfl) (k1 rfl rfl rfl rfl) <| x_pf rfl rfl (eB rfl) (k0 rfl) <| lx_nil, ⟨rfl, trivial⟩⟩) ?_
        refine cw_cond rfl (fun hb315 => ?_) (fun hb315 => ?_)
        · replace h := condT hb315 h
          refine cw_seq (cw_rg hnt rfl (x_as (eT rfl) (k0 rfl) <| x_as (eB rfl) (k0 rfl) <| lx_nil) (cw_ret (cw_rc (cw_rb (cw_rc (cw_rt (cw_rb (cw_rt (cw_rc (cw_rn ?_))))))))))
          cases h
          exact ⟨rfl, sub0⟩
        · replace h := condF hb315 h
          refine cw_skip ?_
          obtain ⟨v316, hv316, h⟩ := bindE h
          refine cw_rg hnt rfl (x_mv (eO rfl) (k0 rfl) <| x_mv (eU v267 rfl) (k0 rfl) <| x_bsA ([v267] : Str) E38 rfl rfl (k0 rfl) <| x_apO (l1 := v212) E38 rfl rfl rfl (vlA' (l := ([v267] : Str)) rfl rfl) hv316 (k0 rfl) <| x_as (eO rfl) (k0 rfl) <| lx_nil) (cw_blk ?_)
          obtain ⟨v317, hv317, h⟩ := bindE h
          refine cw_rg hnt rfl (x_mv (eI rfl) (k0 rfl) <| x_ai (eI rfl) (eI rfl) hv317 (k0 rfl) <| x_as (eI rfl) (k0 rfl) <| lx_nil) (cw_nil ?_)
          exact ⟨g1, _, Nat.lt_succ_self _, (to_ren (N := 0) (n' := 5) (L := [(0, tx p0), (4, .own 4 0 v316.length), (5, i64 v317)]) (H := [(4, ob (v316 : Str))]) (fun y => bif Nat.beq y 4 then 51 else y) [4] [] hn rfl rfl rfl fix0 (by decide) ⟨trv, (Tr.own rfl), trv, trivial⟩ ⟨.inr ⟨rfl, _, rfl, tro⟩, trivial⟩), v317, v316, h, rfl⟩
    · replace h := condF hb266 h
      refine cw_exit (cw_xc (cw_xt (cw_xb (cw_nil ?_))))
      exact ⟨_, (to_ren (N := 0) (n' := 9) (L := [(4, .own 4 0 v212.length)]) (H := [(4, ob (v212 : Str))]) (id) [4] [] hn rfl rfl rfl fix0 (by decide) ⟨(Tr.own rfl), trivial⟩ ⟨.inr ⟨rfl, _, rfl, tro⟩, trivial⟩), v212, h, rfl⟩
  · rintro _ ⟨v159, h, rfl⟩
    rw [r1_value_k1] at h
    refine cw_seq (cw_rg hnt rfl (x_mv (eO rfl) (k0 rfl) <| x_tos (s := v159) Y38 T9 rfl rfl (k0 rfl) <| x_as (eT rfl) (k0 rfl) <| x_as (eB rfl) (k0 rfl) <| lx_nil) (cw_ret (cw_rn ?_)))
    cases h
    exact ⟨rfl, sub0⟩

theorem c_r1_letter (p0 : UInt8) (r : Bool) (h : s_r1_letter p0 = some r) : Pu Tryz.prog 118 [u8 p0] (bo r) := by
  refine ⟨(nfc nfv nfn), nfv, fs_start _ _ Tryz.func118 rfl Tryz.ntmps118 Tryz.results118 rfl fun X hnt hn => ?_⟩
  rw [s_r1_letter] at h
  refine cw_seq (cw_rg hnt rfl (x_as (eB rfl) (k0 rfl) <| lx_nil) (cw_seq ?_))
  obtain ⟨v5, hq, h⟩ := bindE h
  refine cw_rl [(2, bo v5)] (D := [3, 4, 5, 6, 7, 8, 9, 10, 11, 12, 13, 14, 15, 16, 2]) hnt rfl rfl (by
    rcases Bool.eq_false_or_eq_true ((decide (97 ≤ p0))) with hb1 | hb1
    · replace hq := condT hb1 hq
      rcases Bool.eq_false_or_eq_true ((decide (p0 ≤ 122))) with hb2 | hb2
      · replace hq := condT hb2 hq
        replace hq := Option.some.inj hq
        subst hq
        exact ⟨_, _, x_mv (eU p0 rfl) (k0 rfl) <| x_cu (eU p0 rfl) (eU 97 rfl) rfl (k0 rfl) <| x_mv (eB rfl) (k0 rfl) <| x_mv (eU p0 rfl) (k1 rfl rfl rfl (congrArg bo hb1)) <| x_cu (eU p0 rfl) (eU 122 rfl) rfl (k1 rfl rfl rfl (congrArg bo hb1)) <| x_pt rfl hb1 (eB rfl) (k0 rfl) <| x_mv (eB rfl) (k0 rfl) <| lx_off rfl rfl (congrArg bo hb2) rfl <| lx_off rfl rfl (congrArg bo hb2) rfl <| lx_off rfl rfl (congrArg bo hb2) rfl <| lx_dead rfl rfl rfl rfl <| lx_dead rfl rfl rfl rfl <| lx_off rfl rfl (congrArg bo hb2) rfl <| x_pt rfl hb2 (eB rfl) (k0 rfl) <| x_as (eB rfl) (k0 rfl) <| lx_nil, ⟨rfl, trivial⟩⟩
      · replace hq := condF hb2 hq
        rcases Bool.eq_false_or_eq_true ((decide (65 ≤ p0))) with hb3 | hb3
        · replace hq := condT hb3 hq
          replace hq := Option.some.inj hq
          subst hq
          exact ⟨_, _, x_mv (eU p0 rfl) (k0 rfl) <| x_cu (eU p0 rfl) (eU 97 rfl) rfl (k0 rfl) <| x_mv (eB rfl) (k0 rfl) <| x_mv (eU p0 rfl) (k1 rfl rfl rfl (congrArg bo hb1)) <| x_cu (eU p0 rfl) (eU 122 rfl) rfl (k1 rfl rfl rfl (congrArg bo hb1)) <| x_pt rfl hb1 (eB rfl) (k0 rfl) <| x_mv (eB rfl) (k0 rfl) <| x_mv (eU p0 rfl) (k1 rfl rfl rfl (congrArg bo hb2)) <| x_cu (eU p0 rfl) (eU 65 rfl) rfl (k1 rfl rfl rfl (congrArg bo hb2)) <| x_mv (eB rfl) (k1 rfl rfl rfl (congrArg bo hb2)) <| x_mv (eU p0 rfl) (k1 rfl rfl rfl (congrArg bo hb3)) <| x_cu (eU p0 rfl) (eU 90 rfl) rfl (k1 rfl rfl rfl (congrArg bo hb3)) <| x_pt rfl hb3 (eB rfl) (k1 rfl rfl rfl (congrArg bo hb2)) <| x_pf rfl hb2 (eB rfl) (k0 rfl) <| x_as (eB rfl) (k0 rfl) <| lx_nil, ⟨rfl, trivial⟩⟩
        · replace hq := condF hb3 hq
          replace hq := Option.some.inj hq
          subst hq
          exact ⟨_, _, x_mv (eU p0 rfl) (k0 rfl) <| x_cu (eU p0 rfl) (eU 97 rfl) rfl (k0 rfl) <| x_mv (eB rfl) (k0 rfl) <| x_mv (eU p0 rfl) (k1 rfl rfl rfl (congrArg bo hb1)) <| x_cu (eU p0 rfl) (eU 122 rfl) rfl (k1 rfl rfl rfl (congrArg bo hb1)) <| x_pt rfl hb1 (eB rfl) (k0 rfl) <| x_mv (eB rfl) (k0 rfl) <| x_mv (eU p0 rfl) (k1 rfl rfl rfl (congrArg bo hb2)) <| x_cu (eU p0 rfl) (eU 65 rfl) rfl (k1 rfl rfl rfl (congrArg bo hb2)) <| x_mv (eB rfl) (k1 rfl rfl rfl (congrArg bo hb2)) <| lx_off rfl rfl (congrArg bo hb3) rfl <| lx_off rfl rfl (congrArg bo hb3) rfl <| x_pf rfl hb3 (eB rfl) (k1 rfl rfl rfl (congrArg bo hb2)) <| x_pf rfl hb2 (eB rfl) (k0 rfl) <| x_as (eB rfl) (k0 rfl) <| lx_nil, ⟨rfl, trivial⟩⟩
    · replace hq := condF hb1 hq
      rcases Bool.eq_false_or_eq_true ((decide (65 ≤ p0))) with hb4 | hb4
      · replace hq := condT hb4 hq
        replace hq := Option.some.inj hq
        subst hq
        exact ⟨_, _, x_mv (eU p0 rfl) (k0 rfl) <| x_cu (eU p0 rfl) (eU 97 rfl) rfl (k0 rfl) <| x_mv (eB rfl) (k0 rfl) <| lx_off rfl rfl (congrArg bo hb1) rfl <| lx_off rfl rfl (congrArg bo hb1) rfl <| x_pf rfl hb1 (eB rfl) (k0 rfl) <| x_mv (eB rfl) (k0 rfl) <| x_mv (eU p0 rfl) (k1 rfl rfl rfl rfl) <| x_cu (eU p0 rfl) (eU 65 rfl) rfl (k1 rfl rfl rfl rfl) <| x_mv (eB rfl) (k1 rfl rfl rfl rfl) <| x_mv (eU p0 rfl) (k1 rfl rfl rfl (congrArg bo hb4)) <| x_cu (eU p0 rfl) (eU 90 rfl) rfl (k1 rfl rfl rfl (congrArg bo hb4)) <| x_pt rfl hb4 (eB rfl) (k1 rfl rfl rfl rfl) <| x_pf rfl rfl (eB rfl) (k0 rfl) <| x_as (eB rfl) (k0 rfl) <| lx_nil, ⟨rfl, trivial⟩⟩
      · replace hq := condF hb4 hq
        replace hq := Option.some.inj hq
        subst hq
        exact ⟨_, _, x_mv (eU p0 rfl) (k0 rfl) <| x_cu (eU p0 rfl) (eU 97 rfl) rfl (k0 rfl) <| x_mv (eB rfl) (k0 rfl) <| lx_off rfl rfl (congrArg bo hb1) rfl <| lx_off rfl rfl (congrArg bo hb1) rfl <| x_pf rfl hb1 (eB rfl) (k0 rfl) <| x_mv (eB rfl) (k0 rfl) <| x_mv (eU p0 rfl) (k1 rfl rfl rfl rfl) <| x_cu (eU p0 rfl) (eU 65 rfl) rfl (k1 rfl rfl rfl rfl) <| x_mv (eB rfl) (k1 rfl rfl rfl rfl) <| lx_off rfl rfl (congrArg bo hb4) rfl <| lx_off rfl rfl (congrArg bo hb4) rfl <| x_pf rfl hb4 (eB rfl) (k1 rfl rfl rfl rfl) <| x_pf rfl rfl (eB rfl) (k0 rfl) <| x_as (eB rfl) (k0 rfl) <| lx_nil, ⟨rfl, trivial⟩⟩) ?_
  refine cw_ret (cw_rn ?_)
  cases h
  exact ⟨rfl, sub0⟩

theorem c_r1_MayType (p0 : Str) (r : Bool) (h : s_r1_MayType p0 = some r) : Pu Tryz.prog 90 [tx p0] (bo r) := by
  refine ⟨(nfc nfv nfn), nfv, fs_start _ _ Tryz.func90 rfl Tryz.ntmps90 Tryz.results90 rfl fun X hnt hn => ?_⟩
  rw [s_r1_MayType] at h
  refine cw_seq (cw_rg hnt rfl (x_as (eB rfl) (k0 rfl) <| lx_nil) (cw_seq (cw_seq ?_)))
  obtain ⟨v5, hq, h⟩ := bindE h
  refine cw_rl [(16, bo v5)] (D := [4, 5, 6, 7, 8, 9, 10, 11, 12, 13, 14, 15, 16]) hnt rfl rfl (by
    rcases Bool.eq_false_or_eq_true ((p0 == [])) with hb1 | hb1
    · replace hq := condT hb1 hq
      replace hq := Option.some.inj hq
      subst hq
      exact ⟨_, _, x_mv (eT rfl) (k0 rfl) <| x_ct (eT rfl) (eT rfl) rfl (k0 rfl) <| x_mv (eB rfl) (k0 rfl) <| lx_off rfl rfl (congrArg bo hb1) rfl <| lx_off rfl rfl (congrArg bo hb1) rfl <| lx_off rfl rfl (congrArg bo hb1) rfl <| x_pt rfl hb1 (eB rfl) (k0 rfl) <| x_mv (eB rfl) (k0 rfl) <| lx_off rfl rfl rfl rfl <| lx_off rfl rfl rfl rfl <| lx_off rfl rfl rfl rfl <| lx_off rfl rfl rfl rfl <| x_pt rfl rfl (eB rfl) (k0 rfl) <| lx_nil, ⟨rfl, trivial⟩⟩
    · replace hq := condF hb1 hq
      rcases Bool.eq_false_or_eq_true ((decide ((p0.length : Int) > 30))) with hb2 | hb2
      · replace hq := condT hb2 hq
        replace hq := Option.some.inj hq
        subst hq
        exact ⟨_, _, x_mv (eT rfl) (k0 rfl) <| x_ct (eT rfl) (eT rfl) rfl (k0 rfl) <| x_mv (eB rfl) (k0 rfl) <| x_mv (eT rfl) (k1 rfl rfl rfl (congrArg bo hb1)) <| x_lnT T9 (eT rfl) (k1 rfl rfl rfl (congrArg bo hb1)) <| x_ci (eX (.val (.int .i64 (p0.length : Int))) rfl) (eX (.val (.int .i64 30)) rfl) rfl (k1 rfl rfl rfl (congrArg bo hb1)) <| x_pf rfl hb1 (eB rfl) (k0 rfl) <| x_mv (eB rfl) (k0 rfl) <| lx_off rfl rfl (congrArg bo hb2) rfl <| lx_off rfl rfl (congrArg bo hb2) rfl <| lx_off rfl rfl (congrArg bo hb2) rfl <| lx_off rfl rfl (congrArg bo hb2) rfl <| x_pt rfl hb2 (eB rfl) (k0 rfl) <| lx_nil, ⟨rfl, trivial⟩⟩
      · replace hq := condF hb2 hq
        obtain ⟨v3, hv3, hq⟩ := bindE hq
        obtain ⟨v4, hv4, hq⟩ := bindE hq
        replace hq := Option.some.inj hq
        subst hq
        exact ⟨_, _, x_mv (eT rfl) (k0 rfl) <| x_ct (eT rfl) (eT rfl) rfl (k0 rfl) <| x_mv (eB rfl) (k0 rfl) <| x_mv (eT rfl) (k1 rfl rfl rfl (congrArg bo hb1)) <| x_lnT T9 (eT rfl) (k1 rfl rfl rfl (congrArg bo hb1)) <| x_ci (eX (.val (.int .i64 (p0.length : Int))) rfl) (eX (.val (.int .i64 30)) rfl) rfl (k1 rfl rfl rfl (congrArg bo hb1)) <| x_pf rfl hb1 (eB rfl) (k0 rfl) <| x_mv (eB rfl) (k0 rfl) <| x_mv (eT rfl) (k1 rfl rfl rfl (congrArg bo hb2)) <| x_ixT T9 (eT rfl) rfl hv3 (k1 rfl rfl rfl (congrArg bo hb2)) <| x_pu (eF rfl) P118 (c_r1_letter v3 v4 hv4) rfl (k1 rfl rfl rfl (congrArg bo hb2)) <| x_not (eB rfl) (k1 rfl rfl rfl (congrArg bo hb2)) <| x_pf rfl hb2 (eB rfl) (k0 rfl) <| lx_nil, ⟨rfl, trivial⟩⟩) ?_
  refine cw_cond rfl (fun hb6 => ?_) (fun hb6 => ?_)
  · replace h := condT hb6 h
    refine cw_seq (cw_rg hnt rfl (x_as (eB rfl) (k0 rfl) <| lx_nil) (cw_ret (cw_rc (cw_rn ?_))))
    cases h
    exact ⟨rfl, sub0⟩
  · replace h := condF hb6 h
    refine cw_skip (cw_seq (cw_seq (cw_rg hnt rfl (x_as (eI rfl) (k0 rfl) <| lx_nil) ?_)))
    refine cw_cut (fun st => r1_MayType_k1 = some r ∧ st = ⟨ls [], hl [], 19⟩) ?_ ?_
    · skip
      refine cw_block (cw_to (to_ren (N := 0) (n' := 15) (L := [(0, tx p0), (3, i64 0)]) (H := []) (id) [] [] hn rfl rfl rfl fix0 .nil ⟨trv, trv, trivial⟩ trivial) ?_)
      refine cw_loop (fun g st => ∃ (v60 : Int), r1_MayType_l1 p0 g v60 = some r ∧ st = ⟨ls [(0, tx p0), (3, i64 v60)], hl [], 15⟩) FUEL ⟨0, h, rfl⟩ ?_
      rintro g _ ⟨v60, h, rfl⟩
      rcases g with _ | g1
      · rw [r1_MayType_l1] at h; cases h
      rw [r1_MayType_l1] at h
      refine cw_seq (cw_seq (cw_rg hnt rfl (x_mv (eI rfl) (k0 rfl) <| x_mv (eT rfl) (k0 rfl) <| x_lnT T9 (eT rfl) (k0 rfl) <| x_ci (eX (.val (.int .i64 v60)) rfl) (eX (.val (.int .i64 (p0.length : Int))) rfl) rfl (k0 rfl) <| lx_nil) ?_))
      refine cw_cond rfl (fun hb74 => ?_) (fun hb74 => ?_)
      · replace h := condT hb74 h
        refine cw_skip (cw_seq (cw_block (cw_seq ?_)))
        obtain ⟨v84, hq, h⟩ := bindE h
        refine cw_rl [(45, bo v84)] (D := [23, 24, 25, 26, 27, 28, 29, 30, 31, 32, 33, 34, 35, 36, 37, 38, 39, 40, 41, 42, 43, 44, 45]) hnt rfl rfl (by
          obtain ⟨v75, hv75, hq⟩ := bindE hq
          obtain ⟨v76, hv76, hq⟩ := bindE hq
          rcases Bool.eq_false_or_eq_true ((!v76)) with hb77 | hb77
          · replace hq := condT hb77 hq
            obtain ⟨v78, hv78, hq⟩ := bindE hq
            rcases Bool.eq_false_or_eq_true ((decide (v78 < 48))) with hb79 | hb79
            · replace hq := condT hb79 hq
              obtain ⟨v80, hv80, hq⟩ := bindE hq
              replace hq := Option.some.inj hq
              subst hq
              exact ⟨_, _, x_mv (eT rfl) (k0 rfl) <| x_mv (eI rfl) (k0 rfl) <| x_ixT T9 (eT rfl) rfl hv75 (k0 rfl) <| x_pu (eF rfl) P118 (c_r1_letter v75 v76 hv76) rfl (k0 rfl) <| x_not (eB rfl) (k0 rfl) <| x_mv (eB rfl) (k0 rfl) <| x_mv (eT rfl) (k1 rfl rfl rfl (congrArg bo hb77)) <| x_mv (eI rfl) (k1 rfl rfl rfl (congrArg bo hb77)) <| x_ixT T9 (eT rfl) rfl hv78 (k1 rfl rfl rfl (congrArg bo hb77)) <| x_cu (eU v78 rfl) (eU 48 rfl) rfl (k1 rfl rfl rfl (congrArg bo hb77)) <| x_mv (eB rfl) (k1 rfl rfl rfl (congrArg bo hb77)) <| lx_off rfl rfl (congrArg bo hb79) rfl <| lx_off rfl rfl (congrArg bo hb79) rfl <| lx_off rfl rfl (congrArg bo hb79) rfl <| lx_off rfl rfl (congrArg bo hb79) rfl <| x_pt rfl hb79 (eB rfl) (k1 rfl rfl rfl (congrArg bo hb77)) <| x_pt rfl hb77 (eB rfl) (k0 rfl) <| x_mv (eB rfl) (k0 rfl) <| x_mv (eT rfl) (k1 rfl rfl rfl rfl) <| x_mv (eI rfl) (k1 rfl rfl rfl rfl) <| x_ixT T9 (eT rfl) rfl hv80 (k1 rfl rfl rfl rfl) <| x_cu (eU v80 rfl) (eU 45 rfl) rfl (k1 rfl rfl rfl rfl) <| x_pt rfl rfl (eB rfl) (k0 rfl) <| lx_nil, ⟨rfl, trivial⟩⟩
            · replace hq := condF hb79 hq
              obtain ⟨v81, hv81, hq⟩ := bindE hq
              rcases Bool.eq_false_or_eq_true ((decide (57 < v81))) with hb82 | hb82
              · replace hq := condT hb82 hq
                obtain ⟨v83, hv83, hq⟩ := bindE hq
                replace hq := Option.some.inj hq
                subst hq
                exact ⟨_, _, x_mv (eT rfl) (k0 rfl) <| x_mv (eI rfl) (k0 rfl) <| x_ixT T9 (eT rfl) rfl hv75 (k0 rfl) <| x_pu (eF rfl) P118 (c_r1_letter v75 v76 hv76) rfl (k0 rfl) <| x_not (eB rfl) (k0 rfl) <| x_mv (eB rfl) (k0 rfl) <| x_mv (eT rfl) (k1 rfl rfl rfl (congrArg bo hb77)) <| x_mv (eI rfl) (k1 rfl rfl rfl (congrArg bo hb77)) <| x_ixT T9 (eT rfl) rfl hv78 (k1 rfl rfl rfl (congrArg bo hb77)) <| x_cu (eU v78 rfl) (eU 48 rfl) rfl (k1 rfl rfl rfl (congrArg bo hb77)) <| x_mv (eB rfl) (k1 rfl rfl rfl (congrArg bo hb77)) <| x_mv (eT rfl) (k1 rfl rfl rfl (congrArg bo hb79)) <| x_mv (eI rfl) (k1 rfl rfl rfl (congrArg bo hb79)) <| x_ixT T9 (eT rfl) rfl hv81 (k1 rfl rfl rfl (congrArg bo hb79)) <| x_cu (eU v81 rfl) (eU 57 rfl) rfl (k1 rfl rfl rfl (congrArg bo hb79)) <| x_pf rfl hb79 (eB rfl) (k1 rfl rfl rfl (congrArg bo hb77)) <| x_pt rfl hb77 (eB rfl) (k0 rfl) <| x_mv (eB rfl) (k0 rfl) <| x_mv (eT rfl) (k1 rfl rfl rfl (congrArg bo hb82)) <| x_mv (eI rfl) (k1 rfl rfl rfl (congrArg bo hb82)) <| x_ixT T9 (eT rfl) rfl hv83 (k1 rfl rfl rfl (congrArg bo hb82)) <| x_cu (eU v83 rfl) (eU 45 rfl) rfl (k1 rfl rfl rfl (congrArg bo hb82)) <| x_pt rfl hb82 (eB rfl) (k0 rfl) <| lx_nil, ⟨rfl, trivial⟩⟩
              · replace hq := condF hb82 hq
                replace hq := Option.some.inj hq
                subst hq
                exact ⟨_, _, x_mv (eT rfl) (k0 rfl) <| x_mv (eI rfl) (k0 rfl) <| x_ixT T9 (eT rfl) rfl hv75 (k0 rfl) <| x_pu (eF rfl) P118 (c_r1_letter v75 v76 hv76) rfl (k0 rfl) <| x_not (eB rfl) (k0 rfl) <| x_mv (eB rfl) (k0 rfl) <| x_mv (eT rfl) (k1 rfl rfl rfl (congrArg bo hb77)) <| x_mv (eI rfl) (k1 rfl rfl rfl (congrArg bo hb77)) <| x_ixT T9 (eT rfl) rfl hv78 (k1 rfl rfl rfl (congrArg bo hb77)) <| x_cu (eU v78 rfl) (eU 48 rfl) rfl (k1 rfl rfl rfl (congrArg bo hb77)) <| x_mv (eB rfl) (k1 rfl rfl rfl (congrArg bo hb77)) <| x_mv (eT rfl) (k1 rfl rfl rfl (congrArg bo hb79)) <| x_mv (eI rfl) (k1 rfl rfl rfl (congrArg bo hb79)) <| x_ixT T9 (eT rfl) rfl hv81 (k1 rfl rfl rfl (congrArg bo hb79)) <| x_cu (eU v81 rfl) (eU 57 rfl) rfl (k1 rfl rfl rfl (congrArg bo hb79)) <| x_pf rfl hb79 (eB rfl) (k1 rfl rfl rfl (congrArg bo hb77)) <| x_pt rfl hb77 (eB rfl) (k0 rfl) <| x_mv (eB rfl) (k0 rfl) <| lx_off rfl rfl (congrArg bo hb82) rfl <| lx_off rfl rfl (congrArg bo hb82) rfl <| lx_off rfl rfl (congrArg bo hb82) rfl <| lx_off rfl rfl (congrArg bo hb82) rfl <| x_pf rfl hb82 (eB rfl) (k0 rfl) <| lx_nil, ⟨rfl, trivial⟩⟩
          · replace hq := condF hb77 hq
            replace hq := Option.some.inj hq
            subst hq
            exact ⟨_, _, x_mv (eT rfl) (k0 rfl) <| x_mv (eI rfl) (k0 rfl) <| x_ixT T9 (eT rfl) rfl hv75 (k0 rfl) <| x_pu (eF rfl) P118 (c_r1_letter v75 v76 hv76) rfl (k0 rfl) <| x_not (eB rfl) (k0 rfl) <| x_mv (eB rfl) (k0 rfl) <| lx_off rfl rfl (congrArg bo hb77) rfl <| lx_off rfl rfl (congrArg bo hb77) rfl <| lx_off rfl rfl (congrArg bo hb77) rfl <| lx_off rfl rfl (congrArg bo hb77) rfl <| lx_off rfl rfl (congrArg bo hb77) rfl <| lx_dead rfl rfl rfl rfl <| lx_dead rfl rfl rfl rfl <| lx_dead rfl rfl rfl rfl <| lx_dead rfl rfl rfl rfl <| lx_off rfl rfl (congrArg bo hb77) rfl <| x_pf rfl hb77 (eB rfl) (k0 rfl) <| x_mv (eB rfl) (k0 rfl) <| lx_off rfl rfl rfl rfl <| lx_off rfl rfl rfl rfl <| lx_off rfl rfl rfl rfl <| lx_off rfl rfl rfl rfl <| x_pf rfl rfl (eB rfl) (k0 rfl) <| lx_nil, ⟨rfl, trivial⟩⟩) ?_
        refine cw_cond rfl (fun hb85 => ?_) (fun hb85 => ?_)
        · replace h := condT hb85 h
          refine cw_seq (cw_rg hnt rfl (x_as (eB rfl) (k0 rfl) <| lx_nil) (cw_ret (cw_rb (cw_rc (cw_rt (cw_rb (cw_rt (cw_rc (cw_rn ?_)))))))))
          cases h
          exact ⟨rfl, sub0⟩
        · replace h := condF hb85 h
          refine cw_skip (cw_blk ?_)
          obtain ⟨v86, hv86, h⟩ := bindE h
          refine cw_rg hnt rfl (x_mv (eI rfl) (k0 rfl) <| x_ai (eI rfl) (eI rfl) hv86 (k0 rfl) <| x_as (eI rfl) (k0 rfl) <| lx_nil) (cw_nil ?_)
          exact ⟨g1, _, Nat.lt_succ_self _, (to_ren (N := 0) (n' := 15) (L := [(0, tx p0), (3, i64 v86)]) (H := []) (id) [] [] hn rfl rfl rfl fix0 .nil ⟨trv, trv, trivial⟩ trivial), v86, h, rfl⟩
      · replace h := condF hb74 h
        refine cw_exit (cw_xc (cw_xt (cw_xb (cw_nil ?_))))
        exact ⟨_, (to_ren (N := 0) (n' := 19) (L := []) (H := []) (id) [] [] hn rfl rfl rfl fix0 .nil trivial trivial), h, rfl⟩
    · rintro _ ⟨h, rfl⟩
      rw [r1_MayType_k1] at h
      refine cw_seq (cw_rg hnt rfl (x_as (eB rfl) (k0 rfl) <| lx_nil) (cw_ret (cw_rn ?_)))
      cases h
      exact ⟨rfl, sub0⟩

theorem c_r1_MayDn (p0 : List T_Rdn) (r : Bool) (h : s_r1_MayDn p0 = some r) : Pu Tryz.prog 62 [ar p0] (bo r) := by
  refine ⟨(nfc nfa nfn), nfv, fs_start _ _ Tryz.func62 rfl Tryz.ntmps62 Tryz.results62 rfl fun X hnt hn => ?_⟩
  rw [s_r1_MayDn] at h
  refine cw_seq (cw_rg hnt rfl (x_as (eB rfl) (k0 rfl) <| lx_nil) (cw_seq (cw_seq (cw_rg hnt rfl (x_as (eI rfl) (k0 rfl) <| lx_nil) ?_))))
  refine cw_cut (fun st => r1_MayDn_k1 p0 = some r ∧ st = ⟨ls [(0, ar p0)], hl [], 6⟩) ?_ ?_
  · skip
    refine cw_block (cw_to (to_ren (N := 0) (n' := 2) (L := [(0, ar p0), (3, i64 0)]) (H := []) (id) [] [] hn rfl rfl rfl fix0 .nil ⟨tra, trv, trivial⟩ trivial) ?_)
    refine cw_loop (fun g st => ∃ (v42 : Int), r1_MayDn_l1 p0 g v42 = some r ∧ st = ⟨ls [(0, ar p0), (3, i64 v42)], hl [], 2⟩) FUEL ⟨0, h, rfl⟩ ?_
    rintro g _ ⟨v42, h, rfl⟩
    rcases g with _ | g1
    · rw [r1_MayDn_l1] at h; cases h
    rw [r1_MayDn_l1] at h
    refine cw_seq (cw_seq (cw_rg hnt rfl (x_mv (eI rfl) (k0 rfl) <| x_mv (eA rfl) (k0 rfl) <| x_lnA E50 (eX (ar p0) rfl) (k0 rfl) <| x_ci (eX (.val (.int .i64 v42)) rfl) (eX (.val (.int .i64 (p0.length : Int))) rfl) rfl (k0 rfl) <| lx_nil) ?_))
    refine cw_cond rfl (fun hb53 => ?_) (fun hb53 => ?_)
    · replace h := condT hb53 h
      refine cw_skip (cw_seq (cw_block (cw_seq ?_)))
      obtain ⟨v60, hq, h⟩ := bindE h
      refine cw_rl [(33, bo v60)] (D := [10, 11, 12, 13, 14, 15, 16, 17, 18, 19, 20, 21, 22, 23, 24, 25, 26, 27, 28, 29, 30, 31, 32, 33]) hnt rfl rfl (by
        obtain ⟨v54, hv54, hq⟩ := bindE hq
        obtain ⟨v55, hv55, hq⟩ := bindE hq
        rcases Bool.eq_false_or_eq_true ((!v55)) with hb56 | hb56
        · replace hq := condT hb56 hq
          replace hq := Option.some.inj hq
          subst hq
          exact ⟨_, _, x_mv (eA rfl) (k0 rfl) <| x_mv (eI rfl) (k0 rfl) <| x_ia E50 rfl (eX (ar p0) rfl) rfl hv54 (k0 rfl) <| x_fq F49_0 (eQ rfl) (k0 rfl) <| x_ld L9 (eQ rfl) rfl (sX (tx v54.Typ) rfl) (k0 rfl) <| x_pu (eF rfl) P90 (c_r1_MayType v54.Typ v55 hv55) rfl (k0 rfl) <| x_not (eB rfl) (k0 rfl) <| x_mv (eB rfl) (k0 rfl) <| lx_off rfl rfl (congrArg bo hb56) rfl <| lx_off rfl rfl (congrArg bo hb56) rfl <| lx_off rfl rfl (congrArg bo hb56) rfl <| lx_off rfl rfl (congrArg bo hb56) rfl <| lx_off rfl rfl (congrArg bo hb56) rfl <| lx_off rfl rfl (congrArg bo hb56) rfl <| x_pt rfl hb56 (eB rfl) (k0 rfl) <| x_mv (eB rfl) (k0 rfl) <| lx_off rfl rfl rfl rfl <| lx_off rfl rfl rfl rfl <| lx_off rfl rfl rfl rfl <| lx_off rfl rfl rfl rfl <| lx_off rfl rfl rfl rfl <| lx_off rfl rfl rfl rfl <| lx_off rfl rfl rfl rfl <| x_pt rfl rfl (eB rfl) (k0 rfl) <| lx_nil, ⟨rfl, trivial⟩⟩
        · replace hq := condF hb56 hq
          obtain ⟨v57, hv57, hq⟩ := bindE hq
          rcases Bool.eq_false_or_eq_true ((v57.Val == [])) with hb58 | hb58
          · replace hq := condT hb58 hq
            replace hq := Option.some.inj hq
            subst hq
            exact ⟨_, _, x_mv (eA rfl) (k0 rfl) <| x_mv (eI rfl) (k0 rfl) <| x_ia E50 rfl (eX (ar p0) rfl) rfl hv54 (k0 rfl) <| x_fq F49_0 (eQ rfl) (k0 rfl) <| x_ld L9 (eQ rfl) rfl (sX (tx v54.Typ) rfl) (k0 rfl) <| x_pu (eF rfl) P90 (c_r1_MayType v54.Typ v55 hv55) rfl (k0 rfl) <| x_not (eB rfl) (k0 rfl) <| x_mv (eB rfl) (k0 rfl) <| x_mv (eA rfl) (k1 rfl rfl rfl (congrArg bo hb56)) <| x_mv (eI rfl) (k1 rfl rfl rfl (congrArg bo hb56)) <| x_ia E50 rfl (eX (ar p0) rfl) rfl hv57 (k1 rfl rfl rfl (congrArg bo hb56)) <| x_fq F49_1 (eQ rfl) (k1 rfl rfl rfl (congrArg bo hb56)) <| x_ld L9 (eQ rfl) rfl (sX (tx v57.Val) rfl) (k1 rfl rfl rfl (congrArg bo hb56)) <| x_ct (eT rfl) (eT rfl) rfl (k1 rfl rfl rfl (congrArg bo hb56)) <| x_pf rfl hb56 (eB rfl) (k0 rfl) <| x_mv (eB rfl) (k0 rfl) <| lx_off rfl rfl (congrArg bo hb58) rfl <| lx_off rfl rfl (congrArg bo hb58) rfl <| lx_off rfl rfl (congrArg bo hb58) rfl <| lx_off rfl rfl (congrArg bo hb58) rfl <| lx_off rfl rfl (congrArg bo hb58) rfl <| lx_off rfl rfl (congrArg bo hb58) rfl <| lx_off rfl rfl (congrArg bo hb58) rfl <| x_pt rfl hb58 (eB rfl) (k0 rfl) <| lx_nil, ⟨rfl, trivial⟩⟩
          · replace hq := condF hb58 hq
            obtain ⟨v59, hv59, hq⟩ := bindE hq
            replace hq := Option.some.inj hq
            subst hq
            exact ⟨_, _, x_mv (eA rfl) (k0 rfl) <| x_mv (eI rfl) (k0 rfl) <| x_ia E50 rfl (eX (ar p0) rfl) rfl hv54 (k0 rfl) <| x_fq F49_0 (eQ rfl) (k0 rfl) <| x_ld L9 (eQ rfl) rfl (sX (tx v54.Typ) rfl) (k0 rfl) <| x_pu (eF rfl) P90 (c_r1_MayType v54.Typ v55 hv55) rfl (k0 rfl) <| x_not (eB rfl) (k0 rfl) <| x_mv (eB rfl) (k0 rfl) <| x_mv (eA rfl) (k1 rfl rfl rfl (congrArg bo hb56)) <| x_mv (eI rfl) (k1 rfl rfl rfl (congrArg bo hb56)) <| x_ia E50 rfl (eX (ar p0) rfl) rfl hv57 (k1 rfl rfl rfl (congrArg bo hb56)) <| x_fq F49_1 (eQ rfl) (k1 rfl rfl rfl (congrArg bo hb56)) <| x_ld L9 (eQ rfl) rfl (sX (tx v57.Val) rfl) (k1 rfl rfl rfl (congrArg bo hb56)) <| x_ct (eT rfl) (eT rfl) rfl (k1 rfl rfl rfl (congrArg bo hb56)) <| x_pf rfl hb56 (eB rfl) (k0 rfl) <| x_mv (eB rfl) (k0 rfl) <| x_mv (eA rfl) (k1 rfl rfl rfl (congrArg bo hb58)) <| x_mv (eI rfl) (k1 rfl rfl rfl (congrArg bo hb58)) <| x_ia E50 rfl (eX (ar p0) rfl) rfl hv59 (k1 rfl rfl rfl (congrArg bo hb58)) <| x_fq F49_1 (eQ rfl) (k1 rfl rfl rfl (congrArg bo hb58)) <| x_ld L9 (eQ rfl) rfl (sX (tx v59.Val) rfl) (k1 rfl rfl rfl (congrArg bo hb58)) <| x_lnT T9 (eT rfl) (k1 rfl rfl rfl (congrArg bo hb58)) <| x_ci (eX (.val (.int .i64 (v59.Val.length : Int))) rfl) (eX (.val (.int .i64 100)) rfl) rfl (k1 rfl rfl rfl (congrArg bo hb58)) <| x_pf rfl hb58 (eB rfl) (k0 rfl) <| lx_nil, ⟨rfl, trivial⟩⟩) ?_
      refine cw_cond rfl (fun hb61 => ?_) (fun hb61 => ?_)
      · replace h := condT hb61 h
        refine cw_seq (cw_rg hnt rfl (x_as (eB rfl) (k0 rfl) <| lx_nil) (cw_ret (cw_rb (cw_rc (cw_rt (cw_rb (cw_rt (cw_rc (cw_rn ?_)))))))))
        cases h
        exact ⟨rfl, sub0⟩
      · replace h := condF hb61 h
        refine cw_skip (cw_blk ?_)
        obtain ⟨v62, hv62, h⟩ := bindE h
        refine cw_rg hnt rfl (x_mv (eI rfl) (k0 rfl) <| x_ai (eI rfl) (eI rfl) hv62 (k0 rfl) <| x_as (eI rfl) (k0 rfl) <| lx_nil) (cw_nil ?_)
        exact ⟨g1, _, Nat.lt_succ_self _, (to_ren (N := 0) (n' := 2) (L := [(0, ar p0), (3, i64 v62)]) (H := []) (id) [] [] hn rfl rfl rfl fix0 .nil ⟨tra, trv, trivial⟩ trivial), v62, h, rfl⟩
    · replace h := condF hb53 h
      refine cw_exit (cw_xc (cw_xt (cw_xb (cw_nil ?_))))
      exact ⟨_, (to_ren (N := 0) (n' := 6) (L := [(0, ar p0)]) (H := []) (id) [] [] hn rfl rfl rfl fix0 .nil ⟨tra, trivial⟩ trivial), h, rfl⟩
  · rintro _ ⟨h, rfl⟩
    rw [r1_MayDn_k1] at h
    refine cw_seq (cw_rg hnt rfl (x_mv (eA rfl) (k0 rfl) <| x_lnA E50 (eX (ar p0) rfl) (k0 rfl) <| x_ci (eX (.val (.int .i64 (p0.length : Int))) rfl) (eX (.val (.int .i64 8)) rfl) rfl (k0 rfl) <| x_as (eB rfl) (k0 rfl) <| lx_nil) (cw_ret (cw_rn ?_)))
    cases h
    exact ⟨rfl, sub0⟩

theorem c_r1_ParseDn (p0 : Str) (r : T_R1Dn) (h : s_r1_ParseDn p0 = some r) : Pu Tryz.prog 36 [tx p0] (.agg (enc r)) := by
  refine ⟨(nfc nfv nfn), nfe, fs_start _ _ Tryz.func36 rfl Tryz.ntmps36 Tryz.results36 rfl fun X hnt hn => ?_⟩
  rw [s_r1_ParseDn] at h
  refine cw_seq (cw_rg hnt rfl (x_al Z69 (k0 rfl) <| lx_nil) (cw_seq (cw_seq (cw_rg hnt rfl (x_mv (eT rfl) (k0 rfl) <| x_ct (eT rfl) (eT rfl) rfl (k0 rfl) <| lx_nil) ?_))))
  refine cw_cond rfl (fun hb1 => ?_) (fun hb1 => ?_)
  · replace h := condT hb1 h
    refine cw_seq (cw_rg hnt rfl (x_bd B69 (sX3 ([nl, bo true]) rfl) (k0 rfl) <| x_st L69 (eP rfl) rfl rfl rfl rfl (k0 rfl) <| lx_nil) (cw_to (to_ren (N := 0) (n' := 5) (L := [(2, .ptr 0 0 0)]) (H := [(0, ⟨[[ar ([] : List T_Rdn), bo true]], 2⟩)]) (id) [0] [] hn rfl rfl rfl fix0 (by decide) ⟨(Tr.ptr rfl), trivial⟩ ⟨.inr ⟨rfl, _, rfl, TrO.cell (.cons Tr.nilArr (.cons trv .nil)) rfl⟩, trivial⟩) (cw_ret (cw_rc (cw_rn ?_)))))
    cases h
    exact ⟨rfl, sub0⟩
  · replace h := condF hb1 h
    refine cw_skip (cw_seq (cw_rg hnt rfl (x_as (eV rfl) (k0 rfl) <| lx_nil) (cw_seq ?_)))
    obtain ⟨v2, hv2, h⟩ := bindE h
    refine cw_rg hnt rfl (x_mv (eT rfl) (k0 rfl) <| x_pu (eF rfl) P60 (c_r1_cut p0 v2 hv2) rfl (k0 rfl) <| x_as (eA rfl) (k0 rfl) <| lx_nil) (cw_seq (cw_seq (cw_rg hnt rfl (x_as (eI rfl) (k0 rfl) <| lx_nil) ?_)))
    refine cw_cut (fun st => ∃ (v344 : List T_Rdn), r1_ParseDn_k1 v344 = some r ∧ st = ⟨ls [(2, .ptr 0 0 0), (3, .own 8 0 v344.length)], hl [(0, ⟨[[nl, bo false]], 2⟩), (8, ob (v344 : List T_Rdn))], 13⟩) ?_ ?_
    · skip
      refine cw_block (cw_to (to_ren (N := 0) (n' := 9) (L := [(2, .ptr 0 0 0), (3, .own 8 0 0), (4, ar v2), (5, i64 0)]) (H := [(0, ⟨[[nl, bo false]], 2⟩), (8, ob ([] : List T_Rdn))]) (id) [0] [8] hn rfl rfl rfl fix0 (by decide) ⟨(Tr.ptr rfl), (Tr.nilOwn rfl), tra, trv, trivial⟩ ⟨.inr ⟨rfl, _, rfl, TrO.cell (.cons trv (.cons trv .nil)) rfl⟩, .inl ⟨rfl, rfl⟩, trivial⟩) ?_)
      refine cw_loop (fun g st => ∃ (v461 : Int) (v460 : List T_Rdn), r1_ParseDn_l1 v2 g v461 v460 = some r ∧ st = ⟨ls [(2, .ptr 0 0 0), (3, .own 8 0 v460.length), (4, ar v2), (5, i64 v461)], hl [(0, ⟨[[nl, bo false]], 2⟩), (8, ob (v460 : List T_Rdn))], 9⟩) FUEL ⟨0, [], h, rfl⟩ ?_
      rintro g _ ⟨v461, v460, h, rfl⟩
      rcases g with _ | g1
      · rw [r1_ParseDn_l1] at h; cases h
      rw [r1_ParseDn_l1] at h
      refine cw_seq (cw_seq (cw_rg hnt rfl (x_mv (eI rfl) (k0 rfl) <| x_mv (eA rfl) (k0 rfl) <| x_lnA E27 (eX (ar v2) rfl) (k0 rfl) <| x_ci (eX (.val (.int .i64 v461)) rfl) (eX (.val (.int .i64 (v2.length : Int))) rfl) rfl (k0 rfl) <| lx_nil) ?_))
      refine cw_cond rfl (fun hb575 => ?_) (fun hb575 => ?_)
      · replace h := condT hb575 h
        refine cw_skip (cw_seq ?_)
        refine cw_cut (fun st => ∃ (v631 : List T_Rdn), r1_ParseDn_k2 v461 (r1_ParseDn_l1 v2 g1) v631 = some r ∧ st = ⟨ls [(2, .ptr 0 0 0), (3, .own 62 0 v631.length), (4, ar v2), (5, i64 v461)], hl [(0, ⟨[[nl, bo false]], 2⟩), (62, ob (v631 : List T_Rdn))], 64⟩) ?_ ?_
        · skip
          refine cw_block (cw_seq (cw_rg hnt rfl (x_as (eI rfl) (k0 rfl) <| lx_nil) (cw_seq ?_)))
          refine cw_cut (fun st => ∃ (v655 : Int), r1_ParseDn_k3 v2 v460 v461 (r1_ParseDn_l1 v2 g1) v655 = some r ∧ st = ⟨ls [(2, .ptr 0 0 0), (3, .own 8 0 v460.length), (4, ar v2), (5, i64 v461), (6, i64 v655)], hl [(0, ⟨[[nl, bo false]], 2⟩), (8, ob (v460 : List T_Rdn))], 30⟩) ?_ ?_
          · skip
            refine cw_block (cw_to (to_ren (N := 0) (n' := 14) (L := [(2, .ptr 0 0 0), (3, .own 8 0 v460.length), (4, ar v2), (5, i64 v461), (6, i64 0)]) (H := [(0, ⟨[[nl, bo false]], 2⟩), (8, ob (v460 : List T_Rdn))]) (id) [0, 8] [] hn rfl rfl rfl fix0 (by decide) ⟨(Tr.ptr rfl), (Tr.own rfl), tra, trv, trv, trivial⟩ ⟨.inr ⟨rfl, _, rfl, TrO.cell (.cons trv (.cons trv .nil)) rfl⟩, .inr ⟨rfl, _, rfl, tro⟩, trivial⟩) ?_)
            refine cw_loop (fun g st => ∃ (v673 : Int), r1_ParseDn_l2 v2 v460 v461 (r1_ParseDn_l1 v2 g1) g v673 = some r ∧ st = ⟨ls [(2, .ptr 0 0 0), (3, .own 8 0 v460.length), (4, ar v2), (5, i64 v461), (6, i64 v673)], hl [(0, ⟨[[nl, bo false]], 2⟩), (8, ob (v460 : List T_Rdn))], 14⟩) FUEL ⟨0, h, rfl⟩ ?_
            rintro g _ ⟨v673, h, rfl⟩
            rcases g with _ | g2
            · rw [r1_ParseDn_l2] at h; cases h
            rw [r1_ParseDn_l2] at h
            refine cw_seq (cw_seq ?_)
            obtain ⟨v685, hq, h⟩ := bindE h
            refine cw_rl [(35, bo v685)] (D := [20, 21, 22, 23, 24, 25, 26, 27, 28, 29, 30, 31, 32, 33, 34, 35]) hnt rfl rfl (by
              obtain ⟨v681, hv681, hq⟩ := bindE hq
              rcases Bool.eq_false_or_eq_true ((decide (v673 < (v681.length : Int)))) with hb682 | hb682
              · replace hq := condT hb682 hq
                obtain ⟨v683, hv683, hq⟩ := bindE hq
                obtain ⟨v684, hv684, hq⟩ := bindE hq
                replace hq := Option.some.inj hq
                subst hq
                exact ⟨_, _, x_mv (eI rfl) (k0 rfl) <| x_mv (eA rfl) (k0 rfl) <| x_mv (eI rfl) (k0 rfl) <| x_ia E27 rfl (eX (ar v2) rfl) rfl hv681 (k0 rfl) <| x_ld L9 (eQ rfl) rfl (sX (tx v681) rfl) (k0 rfl) <| x_lnT T9 (eT rfl) (k0 rfl) <| x_ci (eX (.val (.int .i64 v673)) rfl) (eX (.val (.int .i64 (v681.length : Int))) rfl) rfl (k0 rfl) <| x_mv (eB rfl) (k0 rfl) <| x_mv (eA rfl) (k1 rfl rfl rfl (congrArg bo hb682)) <| x_mv (eI rfl) (k1 rfl rfl rfl (congrArg bo hb682)) <| x_ia E27 rfl (eX (ar v2) rfl) rfl hv683 (k1 rfl rfl rfl (congrArg bo hb682)) <| x_ld L9 (eQ rfl) rfl (sX (tx v683) rfl) (k1 rfl rfl rfl (congrArg bo hb682)) <| x_mv (eI rfl) (k1 rfl rfl rfl (congrArg bo hb682)) <| x_ixT T9 (eT rfl) rfl hv684 (k1 rfl rfl rfl (congrArg bo hb682)) <| x_cu (eU v684 rfl) (eU 61 rfl) rfl (k1 rfl rfl rfl (congrArg bo hb682)) <| x_pt rfl hb682 (eB rfl) (k0 rfl) <| lx_nil, ⟨rfl, trivial⟩⟩
              · replace hq := condF hb682 hq
                replace hq := Option.some.inj hq
                subst hq
                exact ⟨_, _, x_mv (eI rfl) (k0 rfl) <| x_mv (eA rfl) (k0 rfl) <| x_mv (eI rfl) (k0 rfl) <| x_ia E27 rfl (eX (ar v2) rfl) rfl hv681 (k0 rfl) <| x_ld L9 (eQ rfl) rfl (sX (tx v681) rfl) (k0 rfl) <| x_lnT T9 (eT rfl) (k0 rfl) <| x_ci (eX (.val (.int .i64 v673)) rfl) (eX (.val (.int .i64 (v681.length : Int))) rfl) rfl (k0 rfl) <| x_mv (eB rfl) (k0 rfl) <| lx_off rfl rfl (congrArg bo hb682) rfl <| lx_off rfl rfl (congrArg bo hb682) rfl <| lx_off rfl rfl (congrArg bo hb682) rfl <| lx_off rfl rfl (congrArg bo hb682) rfl <| lx_off rfl rfl (congrArg bo hb682) rfl <| lx_off rfl rfl (congrArg bo hb682) rfl <| lx_off rfl rfl (congrArg bo hb682) rfl <| x_pf rfl hb682 (eB rfl) (k0 rfl) <| lx_nil, ⟨rfl, trivial⟩⟩) ?_
            refine cw_cond rfl (fun hb686 => ?_) (fun hb686 => ?_)
            · replace h := condT hb686 h
              refine cw_skip (cw_block ?_)
              obtain ⟨v687, hv687, h⟩ := bindE h
              refine cw_rg hnt rfl (x_mv (eI rfl) (k0 rfl) <| x_ai (eI rfl) (eI rfl) hv687 (k0 rfl) <| x_as (eI rfl) (k0 rfl) <| lx_nil) (cw_blk (cw_nil ?_))
              exact ⟨g2, _, Nat.lt_succ_self _, (to_ren (N := 0) (n' := 14) (L := [(2, .ptr 0 0 0), (3, .own 8 0 v460.length), (4, ar v2), (5, i64 v461), (6, i64 v687)]) (H := [(0, ⟨[[nl, bo false]], 2⟩), (8, ob (v460 : List T_Rdn))]) (id) [0, 8] [] hn rfl rfl rfl fix0 (by decide) ⟨(Tr.ptr rfl), (Tr.own rfl), tra, trv, trv, trivial⟩ ⟨.inr ⟨rfl, _, rfl, TrO.cell (.cons trv (.cons trv .nil)) rfl⟩, .inr ⟨rfl, _, rfl, tro⟩, trivial⟩), v687, h, rfl⟩
            · replace h := condF hb686 h
              refine cw_exit (cw_xc (cw_xt (cw_xb (cw_nil ?_))))
              exact ⟨_, (to_ren (N := 0) (n' := 30) (L := [(2, .ptr 0 0 0), (3, .own 8 0 v460.length), (4, ar v2), (5, i64 v461), (6, i64 v673)]) (H := [(0, ⟨[[nl, bo false]], 2⟩), (8, ob (v460 : List T_Rdn))]) (id) [0, 8] [] hn rfl rfl rfl fix0 (by decide) ⟨(Tr.ptr rfl), (Tr.own rfl), tra, trv, trv, trivial⟩ ⟨.inr ⟨rfl, _, rfl, TrO.cell (.cons trv (.cons trv .nil)) rfl⟩, .inr ⟨rfl, _, rfl, tro⟩, trivial⟩), v673, h, rfl⟩
          · rintro _ ⟨v655, h, rfl⟩
            rw [r1_ParseDn_k3] at h
            refine cw_seq (cw_seq ?_)
            obtain ⟨v656, hv656, h⟩ := bindE h
            refine cw_rg hnt rfl (x_mv (eI rfl) (k0 rfl) <| x_mv (eA rfl) (k0 rfl) <| x_mv (eI rfl) (k0 rfl) <| x_ia E27 rfl (eX (ar v2) rfl) rfl hv656 (k0 rfl) <| x_ld L9 (eQ rfl) rfl (sX (tx v656) rfl) (k0 rfl) <| x_lnT T9 (eT rfl) (k0 rfl) <| x_ci (eX (.val (.int .i64 v655)) rfl) (eX (.val (.int .i64 (v656.length : Int))) rfl) rfl (k0 rfl) <| lx_nil) ?_
            refine cw_cond rfl (fun hb657 => ?_) (fun hb657 => ?_)
            · replace h := condT hb657 h
              refine cw_seq (cw_rg hnt rfl (x_bd B69 (sX3 ([nl, bo false]) rfl) (k0 rfl) <| x_st L69 (eP rfl) rfl rfl rfl rfl (k0 rfl) <| lx_nil) (cw_to (to_ren (N := 0) (n' := 39) (L := [(2, .ptr 0 0 0)]) (H := [(0, ⟨[[ar ([] : List T_Rdn), bo false]], 2⟩)]) (id) [0] [] hn rfl rfl rfl fix0 (by decide) ⟨(Tr.ptr rfl), trivial⟩ ⟨.inr ⟨rfl, _, rfl, TrO.cell (.cons Tr.nilArr (.cons trv .nil)) rfl⟩, trivial⟩) (cw_ret (cw_rc (cw_rb (cw_rt (cw_rc (cw_rt (cw_rb (cw_rt (cw_rc (cw_rn ?_))))))))))))
              cases h
              exact ⟨rfl, sub0⟩
            · replace h := condF hb657 h
              refine cw_skip (cw_seq ?_)
              obtain ⟨v658, hv658, h⟩ := bindE h
              obtain ⟨v659, hv659, h⟩ := bindE h
              obtain ⟨v660, hv660, h⟩ := bindE h
              obtain ⟨v661, hv661, h⟩ := bindE h
              refine cw_rg hnt rfl (x_mv (eA rfl) (k0 rfl) <| x_mv (eI rfl) (k0 rfl) <| x_ia E27 rfl (eX (ar v2) rfl) rfl hv658 (k0 rfl) <| x_ld L9 (eQ rfl) rfl (sX (tx v658) rfl) (k0 rfl) <| x_mv (eI rfl) (k0 rfl) <| x_ai (eI rfl) (eI rfl) hv659 (k0 rfl) <| x_slT T9 (eT rfl) rfl rfl hv660 (k0 rfl) <| x_pu (eF rfl) P61 (c_r1_value v660 v661 hv661) rfl (k0 rfl) <| x_mv (eW rfl) (k0 rfl) <| x_ex (eW rfl) (sX (tx v661.1) rfl) (k0 rfl) <| x_ex (eW rfl) (sX (bo v661.2) rfl) (k0 rfl) <| x_as (eT rfl) (k0 rfl) <| x_as (eB rfl) (k0 rfl) <| lx_nil) (cw_seq (cw_seq (cw_rg hnt rfl (x_mv (eB rfl) (k0 rfl) <| x_not (eB rfl) (k0 rfl) <| lx_nil) ?_)))
              refine cw_cond rfl (fun hb662 => ?_) (fun hb662 => ?_)
              · replace h := condT hb662 h
                refine cw_seq (cw_rg hnt rfl (x_bd B69 (sX3 ([nl, bo false]) rfl) (k0 rfl) <| x_st L69 (eP rfl) rfl rfl rfl rfl (k0 rfl) <| lx_nil) (cw_to (to_ren (N := 0) (n' := 54) (L := [(2, .ptr 0 0 0)]) (H := [(0, ⟨[[ar ([] : List T_Rdn), bo false]], 2⟩)]) (id) [0] [] hn rfl rfl rfl fix0 (by decide) ⟨(Tr.ptr rfl), trivial⟩ ⟨.inr ⟨rfl, _, rfl, TrO.cell (.cons Tr.nilArr (.cons trv .nil)) rfl⟩, trivial⟩) (cw_ret (cw_rc (cw_rb (cw_rt (cw_rc (cw_rt (cw_rb (cw_rt (cw_rc (cw_rn ?_))))))))))))
                cases h
                exact ⟨rfl, sub0⟩
              · replace h := condF hb662 h
                refine cw_skip ?_
                obtain ⟨v663, hv663, h⟩ := bindE h
                obtain ⟨v664, hv664, h⟩ := bindE h
                obtain ⟨v665, hv665, h⟩ := bindE h
                refine cw_rg hnt rfl (x_mv (eO rfl) (k0 rfl) <| x_mv (eA rfl) (k0 rfl) <| x_mv (eI rfl) (k0 rfl) <| x_ia E27 rfl (eX (ar v2) rfl) rfl hv663 (k0 rfl) <| x_ld L9 (eQ rfl) rfl (sX (tx v663) rfl) (k0 rfl) <| x_mv (eI rfl) (k0 rfl) <| x_slT T9 (eT rfl) rfl rfl hv664 (k0 rfl) <| x_mv (eT rfl) (k0 rfl) <| x_bd B49 (sX3 ([tx v664, tx v661.1]) rfl) (k0 rfl) <| x_bsA ([(⟨v664, v661.1⟩ : T_Rdn)] : List T_Rdn) E50 rfl rfl (k0 rfl) <| x_apO (l1 := v460) E50 rfl rfl rfl (vlA' (l := ([(⟨v664, v661.1⟩ : T_Rdn)] : List T_Rdn)) rfl rfl) hv665 (k0 rfl) <| x_as (eO rfl) (k0 rfl) <| lx_nil) (cw_blk (cw_nil ?_))
                exact ⟨_, (to_ren (N := 0) (n' := 64) (L := [(2, .ptr 0 0 0), (3, .own 62 0 v665.length), (4, ar v2), (5, i64 v461)]) (H := [(0, ⟨[[nl, bo false]], 2⟩), (62, ob (v665 : List T_Rdn))]) (id) [0, 62] [] hn rfl rfl rfl fix0 (by decide) ⟨(Tr.ptr rfl), (Tr.own rfl), tra, trv, trivial⟩ ⟨.inr ⟨rfl, _, rfl, TrO.cell (.cons trv (.cons trv .nil)) rfl⟩, .inr ⟨rfl, _, rfl, tro⟩, trivial⟩), v665, h, rfl⟩
        · rintro _ ⟨v631, h, rfl⟩
          rw [r1_ParseDn_k2] at h
          obtain ⟨v632, hv632, h⟩ := bindE h
          refine cw_rg hnt rfl (x_mv (eI rfl) (k0 rfl) <| x_ai (eI rfl) (eI rfl) hv632 (k0 rfl) <| x_as (eI rfl) (k0 rfl) <| lx_nil) (cw_nil ?_)
          exact ⟨g1, _, Nat.lt_succ_self _, (to_ren (N := 0) (n' := 9) (L := [(2, .ptr 0 0 0), (3, .own 8 0 v631.length), (4, ar v2), (5, i64 v632)]) (H := [(0, ⟨[[nl, bo false]], 2⟩), (8, ob (v631 : List T_Rdn))]) (fun y => bif Nat.beq y 8 then 62 else y) [0, 8] [] hn rfl rfl rfl fix0 (by decide) ⟨(Tr.ptr rfl), (Tr.own rfl), tra, trv, trivial⟩ ⟨.inr ⟨rfl, _, rfl, TrO.cell (.cons trv (.cons trv .nil)) rfl⟩, .inr ⟨rfl, _, rfl, tro⟩, trivial⟩), v632, v631, h, rfl⟩
      · replace h := condF hb575 h
        refine cw_exit (cw_xc (cw_xt (cw_xb (cw_nil ?_))))
        exact ⟨_, (to_ren (N := 0) (n' := 13) (L := [(2, .ptr 0 0 0), (3, .own 8 0 v460.length)]) (H := [(0, ⟨[[nl, bo false]], 2⟩), (8, ob (v460 : List T_Rdn))]) (id) [0, 8] [] hn rfl rfl rfl fix0 (by decide) ⟨(Tr.ptr rfl), (Tr.own rfl), trivial⟩ ⟨.inr ⟨rfl, _, rfl, TrO.cell (.cons trv (.cons trv .nil)) rfl⟩, .inr ⟨rfl, _, rfl, tro⟩, trivial⟩), v460, h, rfl⟩
    · rintro _ ⟨v344, h, rfl⟩
      rw [r1_ParseDn_k1] at h
      refine cw_seq (cw_seq ?_)
      obtain ⟨v345, hv345, h⟩ := bindE h
      refine cw_rg hnt rfl (x_mv (eO rfl) (k0 rfl) <| x_bo (eF rfl) P62 (c_r1_MayDn v344 v345 hv345) (id := 8) rfl rfl (fzc fzO fzn) Pl.val (k0 rfl) <| x_not (eB rfl) (k0 rfl) <| lx_nil) ?_
      refine cw_cond rfl (fun hb346 => ?_) (fun hb346 => ?_)
      · replace h := condT hb346 h
        refine cw_seq (cw_rg hnt rfl (x_bd B69 (sX3 ([nl, bo false]) rfl) (k0 rfl) <| x_st L69 (eP rfl) rfl rfl rfl rfl (k0 rfl) <| lx_nil) (cw_to (to_ren (N := 0) (n' := 18) (L := [(2, .ptr 0 0 0)]) (H := [(0, ⟨[[ar ([] : List T_Rdn), bo false]], 2⟩)]) (id) [0] [] hn rfl rfl rfl fix0 (by decide) ⟨(Tr.ptr rfl), trivial⟩ ⟨.inr ⟨rfl, _, rfl, TrO.cell (.cons Tr.nilArr (.cons trv .nil)) rfl⟩, trivial⟩) (cw_ret (cw_rc (cw_rn ?_)))))
        cases h
        exact ⟨rfl, sub0⟩
      · replace h := condF hb346 h
        refine cw_skip (cw_seq (cw_rg hnt rfl (x_mv (eO rfl) (k0 rfl) <| x_bd B69 (sX3 ([.own 8 0 v344.length, bo true]) rfl) (k0 rfl) <| x_st L69 (eP rfl) rfl rfl rfl rfl (k0 rfl) <| lx_nil) (cw_to (to_fz 8 (L := [(2, .ptr 0 0 0)]) (H := [(0, ⟨[[ar v344, bo true]], 2⟩)]) (o := ob (v344 : List T_Rdn)) rfl ⟨Fz2.keep, trivial⟩ ⟨⟨rfl, .inr ⟨_, rfl, FzO.cell (fzc fzO (fzc Fz2.keep fzn)) (cellL rfl)⟩⟩, trivial⟩) (cw_ret (cw_rn ?_)))))
        cases h
        exact ⟨rfl, sub0⟩

theorem c_r1_Fold (p0 : Str) (r : Str) (h : s_r1_Fold p0 = some r) : Pu Tryz.prog 63 [tx p0] (tx r) := by
  refine ⟨(nfc nfv nfn), nfv, fs_start _ _ Tryz.func63 rfl Tryz.ntmps63 Tryz.results63 rfl fun X hnt hn => ?_⟩
  rw [s_r1_Fold] at h
  refine cw_seq (cw_rg hnt rfl (x_as (eT rfl) (k0 rfl) <| lx_nil) (cw_seq ?_))
  obtain ⟨v1, hv1, h⟩ := bindE h
  refine cw_rg hnt rfl (x_mv (eT rfl) (k0 rfl) <| x_pu (eF rfl) P21 (c_r1_Lower p0 v1 hv1) rfl (k0 rfl) <| x_as (eT rfl) (k0 rfl) <| lx_nil) (cw_seq (cw_rg hnt rfl (x_as (eT rfl) (k0 rfl) <| lx_nil) (cw_seq (cw_rg hnt rfl (x_as (eB rfl) (k0 rfl) <| lx_nil) (cw_seq (cw_seq (cw_rg hnt rfl (x_as (eI rfl) (k0 rfl) <| lx_nil) ?_)))))))
  refine cw_cut (fun st => ∃ (v41 : Str), r1_Fold_k1 v41 = some r ∧ st = ⟨ls [(4, tx v41)], hl [], 11⟩) ?_ ?_
  · skip
    refine cw_block (cw_to (to_ren (N := 0) (n' := 7) (L := [(3, tx v1), (4, tx []), (5, bo false), (6, i64 0)]) (H := []) (id) [] [] hn rfl rfl rfl fix0 .nil ⟨trv, trv, trv, trv, trivial⟩ trivial) ?_)
    refine cw_loop (fun g st => ∃ (v52 : Str) (v50 : Bool) (v51 : Int), r1_Fold_l1 v1 g v52 v50 v51 = some r ∧ st = ⟨ls [(3, tx v1), (4, tx v52), (5, bo v50), (6, i64 v51)], hl [], 7⟩) FUEL ⟨[], false, 0, h, rfl⟩ ?_
    rintro g _ ⟨v52, v50, v51, h, rfl⟩
    rcases g with _ | g1
    · rw [r1_Fold_l1] at h; cases h
    rw [r1_Fold_l1] at h
    refine cw_seq (cw_seq (cw_rg hnt rfl (x_mv (eI rfl) (k0 rfl) <| x_mv (eT rfl) (k0 rfl) <| x_lnT T9 (eT rfl) (k0 rfl) <| x_ci (eX (.val (.int .i64 v51)) rfl) (eX (.val (.int .i64 (v1.length : Int))) rfl) rfl (k0 rfl) <| lx_nil) ?_))
    refine cw_cond rfl (fun hb67 => ?_) (fun hb67 => ?_)
    · replace h := condT hb67 h
      refine cw_skip (cw_seq (cw_block (cw_seq (cw_seq ?_))))
      obtain ⟨v68, hv68, h⟩ := bindE h
      refine cw_rg hnt rfl (x_mv (eT rfl) (k0 rfl) <| x_mv (eI rfl) (k0 rfl) <| x_ixT T9 (eT rfl) rfl hv68 (k0 rfl) <| x_cu (eU v68 rfl) (eU 32 rfl) rfl (k0 rfl) <| lx_nil) ?_
      refine cw_cond rfl (fun hb69 => ?_) (fun hb69 => ?_)
      · replace h := condT hb69 h
        refine cw_seq (cw_rg hnt rfl (x_mv (eT rfl) (k0 rfl) <| x_ct (eT rfl) (eT rfl) rfl (k0 rfl) <| x_as (eB rfl) (k0 rfl) <| lx_nil) (cw_exit (cw_xc (cw_xb ?_))))
        obtain ⟨v70, hv70, h⟩ := bindE h
        refine cw_rg hnt rfl (x_mv (eI rfl) (k0 rfl) <| x_ai (eI rfl) (eI rfl) hv70 (k0 rfl) <| x_as (eI rfl) (k0 rfl) <| lx_nil) (cw_nil ?_)
        exact ⟨g1, _, Nat.lt_succ_self _, (to_ren (N := 0) (n' := 7) (L := [(3, tx v1), (4, tx v52), (5, bo (!(v52 == []))), (6, i64 v70)]) (H := []) (id) [] [] hn rfl rfl rfl fix0 .nil ⟨trv, trv, trv, trv, trivial⟩ trivial), v52, (!(v52 == [])), v70, h, rfl⟩
      · replace h := condF hb69 h
        refine cw_skip (cw_seq (cw_seq (cw_rg hnt rfl (x_mv (eB rfl) (k0 rfl) <| lx_nil) ?_)))
        refine cw_cond rfl (fun hb71 => ?_) (fun hb71 => ?_)
        · replace h := condT hb71 h
          refine cw_seq ?_
          obtain ⟨v72, hv72, h⟩ := bindE h
          refine cw_rg hnt rfl (x_mv (eT rfl) (k0 rfl) <| x_cat (eT rfl) (eT rfl) hv72 (k0 rfl) <| x_as (eT rfl) (k0 rfl) <| lx_nil) (cw_rg hnt rfl (x_as (eB rfl) (k0 rfl) <| lx_nil) ?_)
          obtain ⟨v73, hv73, h⟩ := bindE h
          obtain ⟨v74, hv74, h⟩ := bindE h
          obtain ⟨v75, hv75, h⟩ := bindE h
          refine cw_rg hnt rfl (x_mv (eT rfl) (k0 rfl) <| x_mv (eT rfl) (k0 rfl) <| x_mv (eI rfl) (k0 rfl) <| x_mv (eI rfl) (k0 rfl) <| x_ai (eI rfl) (eI rfl) hv73 (k0 rfl) <| x_slT T9 (eT rfl) rfl rfl hv74 (k0 rfl) <| x_cat (eT rfl) (eT rfl) hv75 (k0 rfl) <| x_as (eT rfl) (k0 rfl) <| lx_nil) (cw_blk ?_)
          obtain ⟨v76, hv76, h⟩ := bindE h
          refine cw_rg hnt rfl (x_mv (eI rfl) (k0 rfl) <| x_ai (eI rfl) (eI rfl) hv76 (k0 rfl) <| x_as (eI rfl) (k0 rfl) <| lx_nil) (cw_nil ?_)
          exact ⟨g1, _, Nat.lt_succ_self _, (to_ren (N := 0) (n' := 7) (L := [(3, tx v1), (4, tx v75), (5, bo false), (6, i64 v76)]) (H := []) (id) [] [] hn rfl rfl rfl fix0 .nil ⟨trv, trv, trv, trv, trivial⟩ trivial), v75, false, v76, h, rfl⟩
        · replace h := condF hb71 h
          refine cw_skip ?_
          obtain ⟨v77, hv77, h⟩ := bindE h
          obtain ⟨v78, hv78, h⟩ := bindE h
          obtain ⟨v79, hv79, h⟩ := bindE h
          refine cw_rg hnt rfl (x_mv (eT rfl) (k0 rfl) <| x_mv (eT rfl) (k0 rfl) <| x_mv (eI rfl) (k0 rfl) <| x_mv (eI rfl) (k0 rfl) <| x_ai (eI rfl) (eI rfl) hv77 (k0 rfl) <| x_slT T9 (eT rfl) rfl rfl hv78 (k0 rfl) <| x_cat (eT rfl) (eT rfl) hv79 (k0 rfl) <| x_as (eT rfl) (k0 rfl) <| lx_nil) (cw_blk ?_)
          obtain ⟨v80, hv80, h⟩ := bindE h
          refine cw_rg hnt rfl (x_mv (eI rfl) (k0 rfl) <| x_ai (eI rfl) (eI rfl) hv80 (k0 rfl) <| x_as (eI rfl) (k0 rfl) <| lx_nil) (cw_nil ?_)
          exact ⟨g1, _, Nat.lt_succ_self _, (to_ren (N := 0) (n' := 7) (L := [(3, tx v1), (4, tx v79), (5, bo v50), (6, i64 v80)]) (H := []) (id) [] [] hn rfl rfl rfl fix0 .nil ⟨trv, trv, trv, trv, trivial⟩ trivial), v79, v50, v80, h, rfl⟩
    · replace h := condF hb67 h
      refine cw_exit (cw_xc (cw_xt (cw_xb (cw_nil ?_))))
      exact ⟨_, (to_ren (N := 0) (n' := 11) (L := [(4, tx v52)]) (H := []) (id) [] [] hn rfl rfl rfl fix0 .nil ⟨trv, trivial⟩ trivial), v52, h, rfl⟩
  · rintro _ ⟨v41, h, rfl⟩
    rw [r1_Fold_k1] at h
    refine cw_seq (cw_rg hnt rfl (x_mv (eT rfl) (k0 rfl) <| x_as (eT rfl) (k0 rfl) <| lx_nil) (cw_ret (cw_rn ?_)))
    cases h
    exact ⟨rfl, sub0⟩

theorem c_r1_two (p0 : UInt8) (r : Str) (h : s_r1_two p0 = some r) : Pu Tryz.prog 70 [u8 p0] (tx r) := by
  refine ⟨(nfc nfv nfn), nfv, fs_start _ _ Tryz.func70 rfl Tryz.ntmps70 Tryz.results70 rfl fun X hnt hn => ?_⟩
  rw [s_r1_two] at h
  refine cw_seq (cw_rg hnt rfl (x_as (eT rfl) (k0 rfl) <| lx_nil) (cw_seq ?_))
  obtain ⟨v1, hv1, h⟩ := bindE h
  obtain ⟨v2, hv2, h⟩ := bindE h
  obtain ⟨v3, hv3, h⟩ := bindE h
  obtain ⟨v4, hv4, h⟩ := bindE h
  obtain ⟨v5, hv5, h⟩ := bindE h
  obtain ⟨v6, hv6, h⟩ := bindE h
  obtain ⟨v7, hv7, h⟩ := bindE h
  obtain ⟨v8, hv8, h⟩ := bindE h
  refine cw_ra [] [] [] [13, 14] hnt rfl Tryz.mixed (by kernel_rfl) rfl (by decide) (x_mv (eU p0 rfl) (k0 rfl) <| x_au (eU p0 rfl) (eU 16 rfl) hv1 (k0 rfl) <| x_mv (eU p0 rfl) (k0 rfl) <| x_au (eU p0 rfl) (eU 16 rfl) hv2 (k0 rfl) <| x_au (eU v2 rfl) (eU 1 rfl) rfl (k0 rfl) <| x_slT T9 (eT rfl) rfl rfl hv3 (k0 rfl) <| x_cat (eT rfl) (eT rfl) hv4 (k0 rfl) <| x_mv (eU p0 rfl) (k0 rfl) <| x_au (eU p0 rfl) (eU 16 rfl) hv5 (k0 rfl) <| x_mv (eU p0 rfl) (k0 rfl) <| x_au (eU p0 rfl) (eU 16 rfl) hv6 (k0 rfl) <| x_au (eU v6 rfl) (eU 1 rfl) rfl (k0 rfl) <| x_slT T9 (eT rfl) rfl rfl hv7 (k0 rfl) <| x_cat (eT rfl) (eT rfl) hv8 (k0 rfl) <| x_as (eT rfl) (k0 rfl) <| lx_nil) (cw_ret (cw_rn ?_))
  cases h
  exact ⟨rfl, sub0⟩

theorem c_r1_escaped (p0 : Str) (r : Str) (h : s_r1_escaped p0 = some r) : Pu Tryz.prog 41 [tx p0] (tx r) := by
  refine ⟨(nfc nfv nfn), nfv, fs_start _ _ Tryz.func41 rfl Tryz.ntmps41 Tryz.results41 rfl fun X hnt hn => ?_⟩
  rw [s_r1_escaped] at h
  refine cw_seq (cw_rg hnt rfl (x_as (eT rfl) (k0 rfl) <| lx_nil) (cw_seq (cw_rg hnt rfl (x_as (eT rfl) (k0 rfl) <| lx_nil) (cw_seq (cw_seq (cw_rg hnt rfl (x_as (eI rfl) (k0 rfl) <| lx_nil) ?_))))))
  refine cw_cut (fun st => ∃ (v87 : Str), r1_escaped_k1 v87 = some r ∧ st = ⟨ls [(3, tx v87)], hl [], 7⟩) ?_ ?_
  · skip
    refine cw_block (cw_to (to_ren (N := 0) (n' := 3) (L := [(0, tx p0), (3, tx []), (4, i64 0)]) (H := []) (id) [] [] hn rfl rfl rfl fix0 .nil ⟨trv, trv, trv, trivial⟩ trivial) ?_)
    refine cw_loop (fun g st => ∃ (v116 : Str) (v117 : Int), r1_escaped_l1 p0 g v116 v117 = some r ∧ st = ⟨ls [(0, tx p0), (3, tx v116), (4, i64 v117)], hl [], 3⟩) FUEL ⟨[], 0, h, rfl⟩ ?_
    rintro g _ ⟨v116, v117, h, rfl⟩
    rcases g with _ | g1
    · rw [r1_escaped_l1] at h; cases h
    rw [r1_escaped_l1] at h
    refine cw_seq (cw_seq (cw_rg hnt rfl (x_mv (eI rfl) (k0 rfl) <| x_mv (eT rfl) (k0 rfl) <| x_lnT T9 (eT rfl) (k0 rfl) <| x_ci (eX (.val (.int .i64 v117)) rfl) (eX (.val (.int .i64 (p0.length : Int))) rfl) rfl (k0 rfl) <| lx_nil) ?_))
    refine cw_cond rfl (fun hb146 => ?_) (fun hb146 => ?_)
    · replace h := condT hb146 h
      refine cw_skip (cw_seq (cw_block (cw_seq ?_)))
      obtain ⟨v147, hv147, h⟩ := bindE h
      refine cw_rg hnt rfl (x_mv (eT rfl) (k0 rfl) <| x_mv (eI rfl) (k0 rfl) <| x_ixT T9 (eT rfl) rfl hv147 (k0 rfl) <| x_as (eU v147 rfl) (k0 rfl) <| lx_nil) (cw_block (cw_seq ?_))
      obtain ⟨v149, hq, h⟩ := bindE h
      refine cw_rl [(22, bo v149)] (D := [23, 24, 25, 26, 27, 28, 22]) hnt rfl rfl (by
        rcases Bool.eq_false_or_eq_true ((decide (v147 < 32))) with hb148 | hb148
        · replace hq := condT hb148 hq
          replace hq := Option.some.inj hq
          subst hq
          exact ⟨_, _, x_mv (eU v147 rfl) (k0 rfl) <| x_cu (eU v147 rfl) (eU 32 rfl) rfl (k0 rfl) <| x_mv (eB rfl) (k0 rfl) <| lx_off rfl rfl (congrArg bo hb148) rfl <| lx_off rfl rfl (congrArg bo hb148) rfl <| x_pt rfl hb148 (eB rfl) (k0 rfl) <| x_as (eB rfl) (k0 rfl) <| lx_nil, ⟨rfl, trivial⟩⟩
        · replace hq := condF hb148 hq
          replace hq := Option.some.inj hq
          subst hq
          exact ⟨_, _, x_mv (eU v147 rfl) (k0 rfl) <| x_cu (eU v147 rfl) (eU 32 rfl) rfl (k0 rfl) <| x_mv (eB rfl) (k0 rfl) <| x_mv (eU v147 rfl) (k1 rfl rfl rfl (congrArg bo hb148)) <| x_cu (eU v147 rfl) (eU 126 rfl) rfl (k1 rfl rfl rfl (congrArg bo hb148)) <| x_pf rfl hb148 (eB rfl) (k0 rfl) <| x_as (eB rfl) (k0 rfl) <| lx_nil, ⟨rfl, trivial⟩⟩) ?_
      refine cw_cond rfl (fun hb150 => ?_) (fun hb150 => ?_)
      · replace h := condT hb150 h
        obtain ⟨v151, hv151, h⟩ := bindE h
        obtain ⟨v152, hv152, h⟩ := bindE h
        refine cw_rg hnt rfl (x_mv (eT rfl) (k0 rfl) <| x_mv (eU v147 rfl) (k0 rfl) <| x_pu (eF rfl) P70 (c_r1_two v147 v151 hv151) rfl (k0 rfl) <| x_cat (eT rfl) (eT rfl) hv152 (k0 rfl) <| x_as (eT rfl) (k0 rfl) <| lx_nil) (cw_blk (cw_blk ?_))
        obtain ⟨v153, hv153, h⟩ := bindE h
        refine cw_rg hnt rfl (x_mv (eI rfl) (k0 rfl) <| x_ai (eI rfl) (eI rfl) hv153 (k0 rfl) <| x_as (eI rfl) (k0 rfl) <| lx_nil) (cw_nil ?_)
        exact ⟨g1, _, Nat.lt_succ_self _, (to_ren (N := 0) (n' := 3) (L := [(0, tx p0), (3, tx v152), (4, i64 v153)]) (H := []) (id) [] [] hn rfl rfl rfl fix0 .nil ⟨trv, trv, trv, trivial⟩ trivial), v152, v153, h, rfl⟩
      · replace h := condF hb150 h
        refine cw_seq ?_
        obtain ⟨v163, hq, h⟩ := bindE h
        refine cw_rl [(33, bo v163)] (D := [34, 35, 36, 37, 38, 39, 40, 41, 42, 43, 44, 45, 46, 47, 48, 49, 50, 51, 52, 53, 54, 55, 56, 57, 58, 33]) hnt rfl rfl (by
          obtain ⟨v154, hv154, hq⟩ := bindE hq
          rcases Bool.eq_false_or_eq_true (v154) with hb155 | hb155
          · replace hq := condT hb155 hq
            replace hq := Option.some.inj hq
            subst hq
            exact ⟨_, _, x_mv (eU v147 rfl) (k0 rfl) <| x_pu (eF rfl) P71 (c_r1_in k_x2c2b225c3c3e3b v147 v154 hv154) rfl (k0 rfl) <| x_mv (eB rfl) (k0 rfl) <| lx_off rfl rfl (congrArg bo hb155) rfl <| lx_off rfl rfl (congrArg bo hb155) rfl <| lx_off rfl rfl (congrArg bo hb155) rfl <| lx_dead rfl rfl rfl rfl <| lx_dead rfl rfl rfl rfl <| lx_dead rfl rfl rfl rfl <| lx_dead rfl rfl rfl rfl <| lx_dead rfl rfl rfl rfl <| lx_dead rfl rfl rfl rfl <| lx_off rfl rfl (congrArg bo hb155) rfl <| x_pt rfl hb155 (eB rfl) (k0 rfl) <| x_mv (eB rfl) (k0 rfl) <| lx_off rfl rfl rfl rfl <| lx_off rfl rfl rfl rfl <| lx_off rfl rfl rfl rfl <| lx_off rfl rfl rfl rfl <| lx_off rfl rfl rfl rfl <| lx_off rfl rfl rfl rfl <| lx_dead rfl rfl rfl rfl <| lx_dead rfl rfl rfl rfl <| lx_off rfl rfl rfl rfl <| x_pt rfl rfl (eB rfl) (k0 rfl) <| x_as (eB rfl) (k0 rfl) <| lx_nil, ⟨rfl, trivial⟩⟩
          · replace hq := condF hb155 hq
            rcases Bool.eq_false_or_eq_true ((v117 == 0)) with hb156 | hb156
            · replace hq := condT hb156 hq
              rcases Bool.eq_false_or_eq_true ((v147 == 35)) with hb157 | hb157
              · replace hq := condT hb157 hq
                replace hq := Option.some.inj hq
                subst hq
                exact ⟨_, _, x_mv (eU v147 rfl) (k0 rfl) <| x_pu (eF rfl) P71 (c_r1_in k_x2c2b225c3c3e3b v147 v154 hv154) rfl (k0 rfl) <| x_mv (eB rfl) (k0 rfl) <| x_mv (eI rfl) (k1 rfl rfl rfl (congrArg bo hb155)) <| x_ci (eX (.val (.int .i64 v117)) rfl) (eX (.val (.int .i64 0)) rfl) rfl (k1 rfl rfl rfl (congrArg bo hb155)) <| x_mv (eB rfl) (k1 rfl rfl rfl (congrArg bo hb155)) <| x_mv (eU v147 rfl) (k1 rfl rfl rfl (congrArg bo hb156)) <| x_cu (eU v147 rfl) (eU 35 rfl) rfl (k1 rfl rfl rfl (congrArg bo hb156)) <| x_mv (eB rfl) (k1 rfl rfl rfl (congrArg bo hb156)) <| lx_off rfl rfl (congrArg bo hb157) rfl <| lx_off rfl rfl (congrArg bo hb157) rfl <| x_pt rfl hb157 (eB rfl) (k1 rfl rfl rfl (congrArg bo hb156)) <| x_pt rfl hb156 (eB rfl) (k1 rfl rfl rfl (congrArg bo hb155)) <| x_pf rfl hb155 (eB rfl) (k0 rfl) <| x_mv (eB rfl) (k0 rfl) <| lx_off rfl rfl rfl rfl <| lx_off rfl rfl rfl rfl <| lx_off rfl rfl rfl rfl <| lx_off rfl rfl rfl rfl <| lx_off rfl rfl rfl rfl <| lx_off rfl rfl rfl rfl <| lx_dead rfl rfl rfl rfl <| lx_dead rfl rfl rfl rfl <| lx_off rfl rfl rfl rfl <| x_pt rfl rfl (eB rfl) (k0 rfl) <| x_as (eB rfl) (k0 rfl) <| lx_nil, ⟨rfl, trivial⟩⟩
              · replace hq := condF hb157 hq
                rcases Bool.eq_false_or_eq_true ((v147 == 32)) with hb158 | hb158
                · replace hq := condT hb158 hq
                  replace hq := Option.some.inj hq
                  subst hq
                  exact ⟨_, _, x_mv (eU v147 rfl) (k0 rfl) <| x_pu (eF rfl) P71 (c_r1_in k_x2c2b225c3c3e3b v147 v154 hv154) rfl (k0 rfl) <| x_mv (eB rfl) (k0 rfl) <| x_mv (eI rfl) (k1 rfl rfl rfl (congrArg bo hb155)) <| x_ci (eX (.val (.int .i64 v117)) rfl) (eX (.val (.int .i64 0)) rfl) rfl (k1 rfl rfl rfl (congrArg bo hb155)) <| x_mv (eB rfl) (k1 rfl rfl rfl (congrArg bo hb155)) <| x_mv (eU v147 rfl) (k1 rfl rfl rfl (congrArg bo hb156)) <| x_cu (eU v147 rfl) (eU 35 rfl) rfl (k1 rfl rfl rfl (congrArg bo hb156)) <| x_mv (eB rfl) (k1 rfl rfl rfl (congrArg bo hb156)) <| x_mv (eU v147 rfl) (k1 rfl rfl rfl (congrArg bo hb157)) <| x_cu (eU v147 rfl) (eU 32 rfl) rfl (k1 rfl rfl rfl (congrArg bo hb157)) <| x_pf rfl hb157 (eB rfl) (k1 rfl rfl rfl (congrArg bo hb156)) <| x_pt rfl hb156 (eB rfl) (k1 rfl rfl rfl (congrArg bo hb155)) <| x_pf rfl hb155 (eB rfl) (k0 rfl) <| x_mv (eB rfl) (k0 rfl) <| lx_off rfl rfl (congrArg bo hb158) rfl <| lx_off rfl rfl (congrArg bo hb158) rfl <| lx_off rfl rfl (congrArg bo hb158) rfl <| lx_off rfl rfl (congrArg bo hb158) rfl <| lx_off rfl rfl (congrArg bo hb158) rfl <| lx_off rfl rfl (congrArg bo hb158) rfl <| lx_dead rfl rfl rfl rfl <| lx_dead rfl rfl rfl rfl <| lx_off rfl rfl (congrArg bo hb158) rfl <| x_pt rfl hb158 (eB rfl) (k0 rfl) <| x_as (eB rfl) (k0 rfl) <| lx_nil, ⟨rfl, trivial⟩⟩
                · replace hq := condF hb158 hq
                  obtain ⟨v159, hv159, hq⟩ := bindE hq
                  rcases Bool.eq_false_or_eq_true ((v117 == v159)) with hb160 | hb160
                  · replace hq := condT hb160 hq
                    replace hq := Option.some.inj hq
                    subst hq
                    exact ⟨_, _, x_mv (eU v147 rfl) (k0 rfl) <| x_pu (eF rfl) P71 (c_r1_in k_x2c2b225c3c3e3b v147 v154 hv154) rfl (k0 rfl) <| x_mv (eB rfl) (k0 rfl) <| x_mv (eI rfl) (k1 rfl rfl rfl (congrArg bo hb155)) <| x_ci (eX (.val (.int .i64 v117)) rfl) (eX (.val (.int .i64 0)) rfl) rfl (k1 rfl rfl rfl (congrArg bo hb155)) <| x_mv (eB rfl) (k1 rfl rfl rfl (congrArg bo hb155)) <| x_mv (eU v147 rfl) (k1 rfl rfl rfl (congrArg bo hb156)) <| x_cu (eU v147 rfl) (eU 35 rfl) rfl (k1 rfl rfl rfl (congrArg bo hb156)) <| x_mv (eB rfl) (k1 rfl rfl rfl (congrArg bo hb156)) <| x_mv (eU v147 rfl) (k1 rfl rfl rfl (congrArg bo hb157)) <| x_cu (eU v147 rfl) (eU 32 rfl) rfl (k1 rfl rfl rfl (congrArg bo hb157)) <| x_pf rfl hb157 (eB rfl) (k1 rfl rfl rfl (congrArg bo hb156)) <| x_pt rfl hb156 (eB rfl) (k1 rfl rfl rfl (congrArg bo hb155)) <| x_pf rfl hb155 (eB rfl) (k0 rfl) <| x_mv (eB rfl) (k0 rfl) <| x_mv (eI rfl) (k1 rfl rfl rfl (congrArg bo hb158)) <| x_mv (eT rfl) (k1 rfl rfl rfl (congrArg bo hb158)) <| x_lnT T9 (eT rfl) (k1 rfl rfl rfl (congrArg bo hb158)) <| x_ai (eI rfl) (eI rfl) hv159 (k1 rfl rfl rfl (congrArg bo hb158)) <| x_ci (eX (.val (.int .i64 v117)) rfl) (eX (.val (.int .i64 v159)) rfl) rfl (k1 rfl rfl rfl (congrArg bo hb158)) <| x_mv (eB rfl) (k1 rfl rfl rfl (congrArg bo hb158)) <| x_mv (eU v147 rfl) (k1 rfl rfl rfl (congrArg bo hb160)) <| x_cu (eU v147 rfl) (eU 32 rfl) rfl (k1 rfl rfl rfl (congrArg bo hb160)) <| x_pt rfl hb160 (eB rfl) (k1 rfl rfl rfl (congrArg bo hb158)) <| x_pf rfl hb158 (eB rfl) (k0 rfl) <| x_as (eB rfl) (k0 rfl) <| lx_nil, ⟨rfl, trivial⟩⟩
                  · replace hq := condF hb160 hq
                    replace hq := Option.some.inj hq
                    subst hq
                    exact ⟨_, _, x_mv (eU v147 rfl) (k0 rfl) <| x_pu (eF rfl) P71 (c_r1_in k_x2c2b225c3c3e3b v147 v154 hv154) rfl (k0 rfl) <| x_mv (eB rfl) (k0 rfl) <| x_mv (eI rfl) (k1 rfl rfl rfl (congrArg bo hb155)) <| x_ci (eX (.val (.int .i64 v117)) rfl) (eX (.val (.int .i64 0)) rfl) rfl (k1 rfl rfl rfl (congrArg bo hb155)) <| x_mv (eB rfl) (k1 rfl rfl rfl (congrArg bo hb155)) <| x_mv (eU v147 rfl) (k1 rfl rfl rfl (congrArg bo hb156)) <| x_cu (eU v147 rfl) (eU 35 rfl) rfl (k1 rfl rfl rfl (congrArg bo hb156)) <| x_mv (eB rfl) (k1 rfl rfl rfl (congrArg bo hb156)) <| x_mv (eU v147 rfl) (k1 rfl rfl rfl (congrArg bo hb157)) <| x_cu (eU v147 rfl) (eU 32 rfl) rfl (k1 rfl rfl rfl (congrArg bo hb157)) <| x_pf rfl hb157 (eB rfl) (k1 rfl rfl rfl (congrArg bo hb156)) <| x_pt rfl hb156 (eB rfl) (k1 rfl rfl rfl (congrArg bo hb155)) <| x_pf rfl hb155 (eB rfl) (k0 rfl) <| x_mv (eB rfl) (k0 rfl) <| x_mv (eI rfl) (k1 rfl rfl rfl (congrArg bo hb158)) <| x_mv (eT rfl) (k1 rfl rfl rfl (congrArg bo hb158)) <| x_lnT T9 (eT rfl) (k1 rfl rfl rfl (congrArg bo hb158)) <| x_ai (eI rfl) (eI rfl) hv159 (k1 rfl rfl rfl (congrArg bo hb158)) <| x_ci (eX (.val (.int .i64 v117)) rfl) (eX (.val (.int .i64 v159)) rfl) rfl (k1 rfl rfl rfl (congrArg bo hb158)) <| x_mv (eB rfl) (k1 rfl rfl rfl (congrArg bo hb158)) <| lx_off rfl rfl (congrArg bo hb160) rfl <| lx_off rfl rfl (congrArg bo hb160) rfl <| x_pf rfl hb160 (eB rfl) (k1 rfl rfl rfl (congrArg bo hb158)) <| x_pf rfl hb158 (eB rfl) (k0 rfl) <| x_as (eB rfl) (k0 rfl) <| lx_nil, ⟨rfl, trivial⟩⟩
            · replace hq := condF hb156 hq
              obtain ⟨v161, hv161, hq⟩ := bindE hq
              rcases Bool.eq_false_or_eq_true ((v117 == v161)) with hb162 | hb162
              · replace hq := condT hb162 hq
                replace hq := Option.some.inj hq
                subst hq
                exact ⟨_, _, x_mv (eU v147 rfl) (k0 rfl) <| x_pu (eF rfl) P71 (c_r1_in k_x2c2b225c3c3e3b v147 v154 hv154) rfl (k0 rfl) <| x_mv (eB rfl) (k0 rfl) <| x_mv (eI rfl) (k1 rfl rfl rfl (congrArg bo hb155)) <| x_ci (eX (.val (.int .i64 v117)) rfl) (eX (.val (.int .i64 0)) rfl) rfl (k1 rfl rfl rfl (congrArg bo hb155)) <| x_mv (eB rfl) (k1 rfl rfl rfl (congrArg bo hb155)) <| lx_off rfl rfl (congrArg bo hb156) rfl <| lx_off rfl rfl (congrArg bo hb156) rfl <| lx_off rfl rfl (congrArg bo hb156) rfl <| lx_dead rfl rfl rfl rfl <| lx_dead rfl rfl rfl rfl <| lx_off rfl rfl (congrArg bo hb156) rfl <| x_pf rfl hb156 (eB rfl) (k1 rfl rfl rfl (congrArg bo hb155)) <| x_pf rfl hb155 (eB rfl) (k0 rfl) <| x_mv (eB rfl) (k0 rfl) <| x_mv (eI rfl) (k1 rfl rfl rfl rfl) <| x_mv (eT rfl) (k1 rfl rfl rfl rfl) <| x_lnT T9 (eT rfl) (k1 rfl rfl rfl rfl) <| x_ai (eI rfl) (eI rfl) hv161 (k1 rfl rfl rfl rfl) <| x_ci (eX (.val (.int .i64 v117)) rfl) (eX (.val (.int .i64 v161)) rfl) rfl (k1 rfl rfl rfl rfl) <| x_mv (eB rfl) (k1 rfl rfl rfl rfl) <| x_mv (eU v147 rfl) (k1 rfl rfl rfl (congrArg bo hb162)) <| x_cu (eU v147 rfl) (eU 32 rfl) rfl (k1 rfl rfl rfl (congrArg bo hb162)) <| x_pt rfl hb162 (eB rfl) (k1 rfl rfl rfl rfl) <| x_pf rfl rfl (eB rfl) (k0 rfl) <| x_as (eB rfl) (k0 rfl) <| lx_nil, ⟨rfl, trivial⟩⟩
              · replace hq := condF hb162 hq
                replace hq := Option.some.inj hq
                subst hq
                exact ⟨_, _, x_mv (eU v147 rfl) (k0 rfl) <| x_pu (eF rfl) P71 (c_r1_in k_x2c2b225c3c3e3b v147 v154 hv154) rfl (k0 rfl) <| x_mv (eB rfl) (k0 rfl) <| x_mv (eI rfl) (k1 rfl rfl rfl (congrArg bo hb155)) <| x_ci (eX (.val (.int .i64 v117)) rfl) (eX (.val (.int .i64 0)) rfl) rfl (k1 rfl rfl rfl (congrArg bo hb155)) <| x_mv (eB rfl) (k1 rfl rfl rfl (congrArg bo hb155)) <| lx_off rfl rfl (congrArg bo hb156) rfl <| lx_off rfl rfl (congrArg bo hb156) rfl <| lx_off rfl rfl (congrArg bo hb156) rfl <| lx_dead rfl rfl rfl rfl <| lx_dead rfl rfl rfl rfl <| lx_off rfl rfl (congrArg bo hb156) rfl <| x_pf rfl hb156 (eB rfl) (k1 rfl rfl rfl (congrArg bo hb155)) <| x_pf rfl hb155 (eB rfl) (k0 rfl) <| x_mv (eB rfl) (k0 rfl) <| x_mv (eI rfl) (k1 rfl rfl rfl rfl) <| x_mv (eT rfl) (k1 rfl rfl rfl rfl) <| x_lnT T9 (eT rfl) (k1 rfl rfl rfl rfl) <| x_ai (eI rfl) (eI rfl) hv161 (k1 rfl rfl rfl rfl) <| x_ci (eX (.val (.int .i64 v117)) rfl) (eX (.val (.int .i64 v161)) rfl) rfl (k1 rfl rfl rfl rfl) <| x_mv (eB rfl) (k1 rfl rfl rfl rfl) <| lx_off rfl rfl (congrArg bo hb162) rfl <| lx_off rfl rfl (congrArg bo hb162) rfl <| x_pf rfl hb162 (eB rfl) (k1 rfl rfl rfl rfl) <| x_pf rfl rfl (eB rfl) (k0 rfl) <| x_as (eB rfl) (k0 rfl) <| lx_nil, ⟨rfl, trivial⟩⟩) ?_
        refine cw_cond rfl (fun hb164 => ?_) (fun hb164 => ?_)
        · replace h := condT hb164 h
          obtain ⟨v165, hv165, h⟩ := bindE h
          obtain ⟨v166, hv166, h⟩ := bindE h
          obtain ⟨v167, hv167, h⟩ := bindE h
          obtain ⟨v168, hv168, h⟩ := bindE h
          refine cw_rg hnt rfl (x_mv (eT rfl) (k0 rfl) <| x_cat (eT rfl) (eT rfl) hv165 (k0 rfl) <| x_mv (eT rfl) (k0 rfl) <| x_mv (eI rfl) (k0 rfl) <| x_mv (eI rfl) (k0 rfl) <| x_ai (eI rfl) (eI rfl) hv166 (k0 rfl) <| x_slT T9 (eT rfl) rfl rfl hv167 (k0 rfl) <| x_cat (eT rfl) (eT rfl) hv168 (k0 rfl) <| x_as (eT rfl) (k0 rfl) <| lx_nil) (cw_blk (cw_blk ?_))
          obtain ⟨v169, hv169, h⟩ := bindE h
          refine cw_rg hnt rfl (x_mv (eI rfl) (k0 rfl) <| x_ai (eI rfl) (eI rfl) hv169 (k0 rfl) <| x_as (eI rfl) (k0 rfl) <| lx_nil) (cw_nil ?_)
          exact ⟨g1, _, Nat.lt_succ_self _, (to_ren (N := 0) (n' := 3) (L := [(0, tx p0), (3, tx v168), (4, i64 v169)]) (H := []) (id) [] [] hn rfl rfl rfl fix0 .nil ⟨trv, trv, trv, trivial⟩ trivial), v168, v169, h, rfl⟩
        · replace h := condF hb164 h
          obtain ⟨v170, hv170, h⟩ := bindE h
          obtain ⟨v171, hv171, h⟩ := bindE h
          obtain ⟨v172, hv172, h⟩ := bindE h
          refine cw_rg hnt rfl (x_mv (eT rfl) (k0 rfl) <| x_mv (eT rfl) (k0 rfl) <| x_mv (eI rfl) (k0 rfl) <| x_mv (eI rfl) (k0 rfl) <| x_ai (eI rfl) (eI rfl) hv170 (k0 rfl) <| x_slT T9 (eT rfl) rfl rfl hv171 (k0 rfl) <| x_cat (eT rfl) (eT rfl) hv172 (k0 rfl) <| x_as (eT rfl) (k0 rfl) <| lx_nil) (cw_blk (cw_blk ?_))
          obtain ⟨v173, hv173, h⟩ := bindE h
          refine cw_rg hnt rfl (x_mv (eI rfl) (k0 rfl) <| x_ai (eI rfl) (eI rfl) hv173 (k0 rfl) <| x_as (eI rfl) (k0 rfl) <| lx_nil) (cw_nil ?_)
          exact ⟨g1, _, Nat.lt_succ_self _, (to_ren (N := 0) (n' := 3) (L := [(0, tx p0), (3, tx v172), (4, i64 v173)]) (H := []) (id) [] [] hn rfl rfl rfl fix0 .nil ⟨trv, trv, trv, trivial⟩ trivial), v172, v173, h, rfl⟩
    · replace h := condF hb146 h
      refine cw_exit (cw_xc (cw_xt (cw_xb (cw_nil ?_))))
      exact ⟨_, (to_ren (N := 0) (n' := 7) (L := [(3, tx v116)]) (H := []) (id) [] [] hn rfl rfl rfl fix0 .nil ⟨trv, trivial⟩ trivial), v116, h, rfl⟩
  · rintro _ ⟨v87, h, rfl⟩
    rw [r1_escaped_k1] at h
    refine cw_seq (cw_rg hnt rfl (x_mv (eT rfl) (k0 rfl) <| x_as (eT rfl) (k0 rfl) <| lx_nil) (cw_ret (cw_rn ?_)))
    cases h
    exact ⟨rfl, sub0⟩

theorem c_r1_TextDn (p0 : List T_Rdn) (r : Str) (h : s_r1_TextDn p0 = some r) : Pu Tryz.prog 20 [ar p0] (tx r) := by
  refine ⟨(nfc nfa nfn), nfv, fs_start _ _ Tryz.func20 rfl Tryz.ntmps20 Tryz.results20 rfl fun X hnt hn => ?_⟩
  rw [s_r1_TextDn] at h
  refine cw_seq (cw_rg hnt rfl (x_as (eT rfl) (k0 rfl) <| lx_nil) (cw_seq (cw_rg hnt rfl (x_as (eT rfl) (k0 rfl) <| lx_nil) (cw_seq (cw_seq (cw_rg hnt rfl (x_as (eI rfl) (k0 rfl) <| lx_nil) ?_))))))
  refine cw_cut (fun st => ∃ (v42 : Str), r1_TextDn_k1 v42 = some r ∧ st = ⟨ls [(3, tx v42)], hl [], 7⟩) ?_ ?_
  · skip
    refine cw_block (cw_to (to_ren (N := 0) (n' := 3) (L := [(0, ar p0), (3, tx []), (4, i64 0)]) (H := []) (id) [] [] hn rfl rfl rfl fix0 .nil ⟨tra, trv, trv, trivial⟩ trivial) ?_)
    refine cw_loop (fun g st => ∃ (v56 : Str) (v57 : Int), r1_TextDn_l1 p0 g v56 v57 = some r ∧ st = ⟨ls [(0, ar p0), (3, tx v56), (4, i64 v57)], hl [], 3⟩) FUEL ⟨[], 0, h, rfl⟩ ?_
    rintro g _ ⟨v56, v57, h, rfl⟩
    rcases g with _ | g1
    · rw [r1_TextDn_l1] at h; cases h
    rw [r1_TextDn_l1] at h
    refine cw_seq (cw_seq (cw_rg hnt rfl (x_mv (eI rfl) (k0 rfl) <| x_mv (eA rfl) (k0 rfl) <| x_lnA E50 (eX (ar p0) rfl) (k0 rfl) <| x_ci (eX (.val (.int .i64 v57)) rfl) (eX (.val (.int .i64 (p0.length : Int))) rfl) rfl (k0 rfl) <| lx_nil) ?_))
    refine cw_cond rfl (fun hb71 => ?_) (fun hb71 => ?_)
    · replace h := condT hb71 h
      refine cw_skip (cw_seq (cw_block (cw_seq (cw_seq (cw_rg hnt rfl (x_mv (eI rfl) (k0 rfl) <| x_ci (eX (.val (.int .i64 v57)) rfl) (eX (.val (.int .i64 0)) rfl) rfl (k0 rfl) <| lx_nil) ?_)))))
      refine cw_cut (fun st => ∃ (v74 : Str), r1_TextDn_k2 p0 v57 (r1_TextDn_l1 p0 g1) v74 = some r ∧ st = ⟨ls [(0, ar p0), (3, tx v74), (4, i64 v57)], hl [], 12⟩) ?_ ?_
      · skip
        refine cw_cond rfl (fun hb82 => ?_) (fun hb82 => ?_)
        · replace h := condT hb82 h
          obtain ⟨v83, hv83, h⟩ := bindE h
          refine cw_rg hnt rfl (x_mv (eT rfl) (k0 rfl) <| x_cat (eT rfl) (eT rfl) hv83 (k0 rfl) <| x_as (eT rfl) (k0 rfl) <| lx_nil) (cw_nil ?_)
          exact ⟨_, (to_ren (N := 0) (n' := 12) (L := [(0, ar p0), (3, tx v83), (4, i64 v57)]) (H := []) (id) [] [] hn rfl rfl rfl fix0 .nil ⟨tra, trv, trv, trivial⟩ trivial), v83, h, rfl⟩
        · replace h := condF hb82 h
          refine cw_skip (cw_nil ?_)
          exact ⟨_, (to_ren (N := 0) (n' := 12) (L := [(0, ar p0), (3, tx v56), (4, i64 v57)]) (H := []) (id) [] [] hn rfl rfl rfl fix0 .nil ⟨tra, trv, trv, trivial⟩ trivial), v56, h, rfl⟩
      · rintro _ ⟨v74, h, rfl⟩
        rw [r1_TextDn_k2] at h
        obtain ⟨v75, hv75, h⟩ := bindE h
        obtain ⟨v76, hv76, h⟩ := bindE h
        obtain ⟨v77, hv77, h⟩ := bindE h
        obtain ⟨v78, hv78, h⟩ := bindE h
        obtain ⟨v79, hv79, h⟩ := bindE h
        obtain ⟨v80, hv80, h⟩ := bindE h
        refine cw_ra [] [] [] [14, 15] hnt rfl Tryz.mixed (by kernel_rfl) rfl (by decide) (x_mv (eT rfl) (k0 rfl) <| x_mv (eA rfl) (k0 rfl) <| x_mv (eI rfl) (k0 rfl) <| x_ia E50 rfl (eX (ar p0) rfl) rfl hv75 (k0 rfl) <| x_fq F49_0 (eQ rfl) (k0 rfl) <| x_ld L9 (eQ rfl) rfl (sX (tx v75.Typ) rfl) (k0 rfl) <| x_cat (eT rfl) (eT rfl) hv76 (k0 rfl) <| x_cat (eT rfl) (eT rfl) hv77 (k0 rfl) <| x_mv (eA rfl) (k0 rfl) <| x_mv (eI rfl) (k0 rfl) <| x_ia E50 rfl (eX (ar p0) rfl) rfl hv78 (k0 rfl) <| x_fq F49_1 (eQ rfl) (k0 rfl) <| x_ld L9 (eQ rfl) rfl (sX (tx v78.Val) rfl) (k0 rfl) <| x_pu (eF rfl) P41 (c_r1_escaped v78.Val v79 hv79) rfl (k0 rfl) <| x_cat (eT rfl) (eT rfl) hv80 (k0 rfl) <| x_as (eT rfl) (k0 rfl) <| lx_nil) (cw_blk ?_)
        obtain ⟨v81, hv81, h⟩ := bindE h
        refine cw_rg hnt rfl (x_mv (eI rfl) (k0 rfl) <| x_ai (eI rfl) (eI rfl) hv81 (k0 rfl) <| x_as (eI rfl) (k0 rfl) <| lx_nil) (cw_nil ?_)
        exact ⟨g1, _, Nat.lt_succ_self _, (to_ren (N := 0) (n' := 3) (L := [(0, ar p0), (3, tx v80), (4, i64 v81)]) (H := []) (id) [] [] hn rfl rfl rfl fix0 .nil ⟨tra, trv, trv, trivial⟩ trivial), v80, v81, h, rfl⟩
    · replace h := condF hb71 h
      refine cw_exit (cw_xc (cw_xt (cw_xb (cw_nil ?_))))
      exact ⟨_, (to_ren (N := 0) (n' := 7) (L := [(3, tx v56)]) (H := []) (id) [] [] hn rfl rfl rfl fix0 .nil ⟨trv, trivial⟩ trivial), v56, h, rfl⟩
  · rintro _ ⟨v42, h, rfl⟩
    rw [r1_TextDn_k1] at h
    refine cw_seq (cw_rg hnt rfl (x_mv (eT rfl) (k0 rfl) <| x_as (eT rfl) (k0 rfl) <| lx_nil) (cw_ret (cw_rn ?_)))
    cases h
    exact ⟨rfl, sub0⟩

theorem c_r1_Key (p0 : Str) (r : T_R1Said) (h : s_r1_Key p0 = some r) : Pu Tryz.prog 37 [tx p0] (.agg (enc r)) := by
  refine ⟨(nfc nfv nfn), nfe, fs_start _ _ Tryz.func37 rfl Tryz.ntmps37 Tryz.results37 rfl fun X hnt hn => ?_⟩
  rw [s_r1_Key] at h
  refine cw_seq (cw_rg hnt rfl (x_al Z72 (k0 rfl) <| lx_nil) (cw_seq ?_))
  obtain ⟨v1, hv1, h⟩ := bindE h
  refine cw_rg hnt rfl (x_mv (eT rfl) (k0 rfl) <| x_pu (eF rfl) P36 (c_r1_ParseDn p0 v1 hv1) rfl (k0 rfl) <| x_al Z69 (k0 rfl) <| x_st L69 (eP rfl) rfl rfl rfl rfl (k0 rfl) <| lx_nil) (cw_seq (cw_seq (cw_rg hnt rfl (x_fp F69_1 (eP rfl) (k0 rfl) <| x_ld L4 (eP rfl) rfl (sX (bo v1.Ok) rfl) (k0 rfl) <| x_not (eB rfl) (k0 rfl) <| lx_nil) ?_)))
  refine cw_cond rfl (fun hb2 => ?_) (fun hb2 => ?_)
  · replace h := condT hb2 h
    refine cw_seq (cw_rg hnt rfl (x_bd B72 (sX3 ([tx [], bo false]) rfl) (k0 rfl) <| x_st L72 (eP rfl) rfl rfl rfl rfl (k0 rfl) <| lx_nil) (cw_ret (cw_rc (cw_rn ?_))))
    cases h
    exact ⟨rfl, sub0⟩
  · replace h := condF hb2 h
    refine cw_skip (cw_seq (cw_rg hnt rfl (x_as (eV rfl) (k0 rfl) <| lx_nil) (cw_seq (cw_seq (cw_rg hnt rfl (x_as (eI rfl) (k0 rfl) <| lx_nil) ?_)))))
    refine cw_cut (fun st => ∃ (v29 : List T_Rdn), r1_Key_k1 v29 = some r ∧ st = ⟨ls [(2, .ptr 0 0 0), (4, .own 10 0 v29.length)], hl [(0, ⟨[[tx [], bo false]], 2⟩), (10, ob (v29 : List T_Rdn))], 16⟩) ?_ ?_
    · skip
      refine cw_block (cw_to (to_ren (N := 0) (n' := 11) (L := [(2, .ptr 0 0 0), (3, .ptr 3 0 0), (4, .own 10 0 0), (5, i64 0)]) (H := [(0, ⟨[[tx [], bo false]], 2⟩), (3, ⟨[[ar v1.L, bo v1.Ok]], 2⟩), (10, ob ([] : List T_Rdn))]) (id) [0, 3] [10] hn rfl rfl rfl fix0 (by decide) ⟨(Tr.ptr rfl), (Tr.ptr rfl), (Tr.nilOwn rfl), trv, trivial⟩ ⟨.inr ⟨rfl, _, rfl, TrO.cell (.cons trv (.cons trv .nil)) rfl⟩, .inr ⟨rfl, _, rfl, TrO.cell (.cons tra (.cons trv .nil)) rfl⟩, .inl ⟨rfl, rfl⟩, trivial⟩) ?_)
      refine cw_loop (fun g st => ∃ (v40 : Int) (v39 : List T_Rdn), r1_Key_l1 v1 g v40 v39 = some r ∧ st = ⟨ls [(2, .ptr 0 0 0), (3, .ptr 3 0 0), (4, .own 10 0 v39.length), (5, i64 v40)], hl [(0, ⟨[[tx [], bo false]], 2⟩), (3, ⟨[[ar v1.L, bo v1.Ok]], 2⟩), (10, ob (v39 : List T_Rdn))], 11⟩) FUEL ⟨0, [], h, rfl⟩ ?_
      rintro g _ ⟨v40, v39, h, rfl⟩
      rcases g with _ | g1
      · rw [r1_Key_l1] at h; cases h
      rw [r1_Key_l1] at h
      refine cw_seq (cw_seq (cw_rg hnt rfl (x_mv (eI rfl) (k0 rfl) <| x_fp F69_0 (eP rfl) (k0 rfl) <| x_ld L50 (eP rfl) rfl (sX (ar v1.L) rfl) (k0 rfl) <| x_lnA E50 (eX (ar v1.L) rfl) (k0 rfl) <| x_ci (eX (.val (.int .i64 v40)) rfl) (eX (.val (.int .i64 (v1.L.length : Int))) rfl) rfl (k0 rfl) <| lx_nil) ?_))
      refine cw_cond rfl (fun hb49 => ?_) (fun hb49 => ?_)
      · replace h := condT hb49 h
        refine cw_skip (cw_seq (cw_block (cw_seq ?_)))
        obtain ⟨v50, hv50, h⟩ := bindE h
        obtain ⟨v51, hv51, h⟩ := bindE h
        obtain ⟨v52, hv52, h⟩ := bindE h
        obtain ⟨v53, hv53, h⟩ := bindE h
        refine cw_ra [] [(15, [15])] [(0, [15]), (1, [15]), (2, [15]), (3, [15]), (4, [15]), (5, [15]), (6, [15]), (7, [15]), (8, [15]), (9, [15]), (10, [15]), (11, [15]), (12, [15]), (13, [15]), (14, [15])] [16] hnt rfl Tryz.mixed (by kernel_rfl) rfl (by decide) (x_fp F69_0 (eP rfl) (k0 rfl) <| x_ld L50 (eP rfl) rfl (sX (ar v1.L) rfl) (k0 rfl) <| x_mv (eI rfl) (k0 rfl) <| x_ia E50 rfl (eX (ar v1.L) rfl) rfl hv50 (k0 rfl) <| x_fq F49_0 (eQ rfl) (k0 rfl) <| x_ld L9 (eQ rfl) rfl (sX (tx v50.Typ) rfl) (k0 rfl) <| x_pu (eF rfl) P21 (c_r1_Lower v50.Typ v51 hv51) rfl (k0 rfl) <| x_fp F69_0 (eP rfl) (k0 rfl) <| x_ld L50 (eP rfl) rfl (sX (ar v1.L) rfl) (k0 rfl) <| x_mv (eI rfl) (k0 rfl) <| x_ia E50 rfl (eX (ar v1.L) rfl) rfl hv52 (k0 rfl) <| x_fq F49_1 (eQ rfl) (k0 rfl) <| x_ld L9 (eQ rfl) rfl (sX (tx v52.Val) rfl) (k0 rfl) <| x_pu (eF rfl) P63 (c_r1_Fold v52.Val v53 hv53) rfl (k0 rfl) <| x_bd B49 (sX3 ([tx v51, tx v53]) rfl) (k0 rfl) <| x_al Z49 (k0 rfl) <| x_st L49 (eP rfl) rfl rfl rfl rfl (k0 rfl) <| lx_nil) (cw_seq (cw_seq (cw_rg hnt rfl (x_fp F49_1 (eP rfl) (k0 rfl) <| x_ld L9 (eP rfl) rfl (sX (tx v53) rfl) (k0 rfl) <| x_ct (eT rfl) (eT rfl) rfl (k0 rfl) <| lx_nil) ?_)))
        refine cw_cond rfl (fun hb54 => ?_) (fun hb54 => ?_)
        · replace h := condT hb54 h
          refine cw_seq (cw_rg hnt rfl (x_bd B72 (sX3 ([tx [], bo false]) rfl) (k0 rfl) <| x_st L72 (eP rfl) rfl rfl rfl rfl (k0 rfl) <| lx_nil) (cw_ret (cw_rc (cw_rb (cw_rc (cw_rt (cw_rb (cw_rt (cw_rc (cw_rn ?_))))))))))
          cases h
          exact ⟨rfl, sub0⟩
        · replace h := condF hb54 h
          refine cw_skip ?_
          obtain ⟨v55, hv55, h⟩ := bindE h
          refine cw_rg hnt rfl (x_mv (eO rfl) (k0 rfl) <| x_ld L49 (eP rfl) rfl (sX (.agg [tx v51, tx v53]) rfl) (k0 rfl) <| x_bsA ([(⟨v51, v53⟩ : T_Rdn)] : List T_Rdn) E50 rfl rfl (k0 rfl) <| x_apO (l1 := v39) E50 rfl rfl rfl (vlA' (l := ([(⟨v51, v53⟩ : T_Rdn)] : List T_Rdn)) rfl rfl) hv55 (k0 rfl) <| x_as (eO rfl) (k0 rfl) <| lx_nil) (cw_blk ?_)
          obtain ⟨v56, hv56, h⟩ := bindE h
          refine cw_rg hnt rfl (x_mv (eI rfl) (k0 rfl) <| x_ai (eI rfl) (eI rfl) hv56 (k0 rfl) <| x_as (eI rfl) (k0 rfl) <| lx_nil) (cw_nil ?_)
          exact ⟨g1, _, Nat.lt_succ_self _, (to_ren (N := 0) (n' := 11) (L := [(2, .ptr 0 0 0), (3, .ptr 3 0 0), (4, .own 10 0 v55.length), (5, i64 v56)]) (H := [(0, ⟨[[tx [], bo false]], 2⟩), (3, ⟨[[ar v1.L, bo v1.Ok]], 2⟩), (10, ob (v55 : List T_Rdn))]) (fun y => bif Nat.beq y 10 then 39 else y) [0, 3, 10] [] hn rfl rfl rfl fix0 (by decide) ⟨(Tr.ptr rfl), (Tr.ptr rfl), (Tr.own rfl), trv, trivial⟩ ⟨.inr ⟨rfl, _, rfl, TrO.cell (.cons trv (.cons trv .nil)) rfl⟩, .inr ⟨rfl, _, rfl, TrO.cell (.cons tra (.cons trv .nil)) rfl⟩, .inr ⟨rfl, _, rfl, tro⟩, trivial⟩), v56, v55, h, rfl⟩
      · replace h := condF hb49 h
        refine cw_exit (cw_xc (cw_xt (cw_xb (cw_nil ?_))))
        exact ⟨_, (to_ren (N := 0) (n' := 16) (L := [(2, .ptr 0 0 0), (4, .own 10 0 v39.length)]) (H := [(0, ⟨[[tx [], bo false]], 2⟩), (10, ob (v39 : List T_Rdn))]) (id) [0, 10] [] hn rfl rfl rfl fix0 (by decide) ⟨(Tr.ptr rfl), (Tr.own rfl), trivial⟩ ⟨.inr ⟨rfl, _, rfl, TrO.cell (.cons trv (.cons trv .nil)) rfl⟩, .inr ⟨rfl, _, rfl, tro⟩, trivial⟩), v39, h, rfl⟩
    · rintro _ ⟨v29, h, rfl⟩
      rw [r1_Key_k1] at h
      refine cw_seq ?_
      obtain ⟨v30, hv30, h⟩ := bindE h
      refine cw_rg hnt rfl (x_mv (eO rfl) (k0 rfl) <| x_bo (eF rfl) P20 (c_r1_TextDn v29 v30 hv30) (id := 10) rfl rfl (fzc fzO fzn) Pl.val (k0 rfl) <| x_bd B72 (sX3 ([tx v30, bo true]) rfl) (k0 rfl) <| x_st L72 (eP rfl) rfl rfl rfl rfl (k0 rfl) <| lx_nil) (cw_ret (cw_rn ?_))
      cases h
      exact ⟨rfl, sub0⟩

theorem c_r1_Rule (p0 : Str) (r : Int) (h : s_r1_Rule p0 = some r) : Pu Tryz.prog 64 [tx p0] (i64 r) := by
  refine ⟨(nfc nfv nfn), nfv, fs_start _ _ Tryz.func64 rfl Tryz.ntmps64 Tryz.results64 rfl fun X hnt hn => ?_⟩
  rw [s_r1_Rule] at h
  refine cw_seq (cw_rg hnt rfl (x_as (eI rfl) (k0 rfl) <| lx_nil) (cw_seq (cw_seq ?_)))
  obtain ⟨v1, hv1, h⟩ := bindE h
  refine cw_rg hnt rfl (x_mv (eT rfl) (k0 rfl) <| x_pu (eF rfl) P21 (c_r1_Lower p0 v1 hv1) rfl (k0 rfl) <| lx_nil) (cw_block (cw_seq (cw_seq (cw_rg hnt rfl (x_ct (eT rfl) (eT rfl) rfl (k0 rfl) <| x_as (eB rfl) (k0 rfl) <| lx_nil) ?_))))
  refine cw_cond rfl (fun hb2 => ?_) (fun hb2 => ?_)
  · replace h := condT hb2 h
    refine cw_skip (cw_tk rfl hb2 (cw_seq (cw_rg hnt rfl (x_as (eI rfl) (k0 rfl) <| lx_nil) (cw_ret (cw_rb (cw_rc (cw_rn ?_)))))))
    cases h
    exact ⟨rfl, sub0⟩
  · replace h := condF hb2 h
    refine cw_seq (cw_rg hnt rfl (x_ct (eT rfl) (eT rfl) rfl (k0 rfl) <| x_as (eB rfl) (k0 rfl) <| lx_nil) ?_)
    refine cw_cond rfl (fun hb3 => ?_) (fun hb3 => ?_)
    · replace h := condT hb3 h
      refine cw_skip (cw_tk rfl hb3 (cw_seq (cw_rg hnt rfl (x_as (eI rfl) (k0 rfl) <| lx_nil) (cw_ret (cw_rb (cw_rc (cw_rn ?_)))))))
      cases h
      exact ⟨rfl, sub0⟩
    · replace h := condF hb3 h
      refine cw_seq (cw_rg hnt rfl (x_ct (eT rfl) (eT rfl) rfl (k0 rfl) <| x_as (eB rfl) (k0 rfl) <| lx_nil) ?_)
      refine cw_cond rfl (fun hb4 => ?_) (fun hb4 => ?_)
      · replace h := condT hb4 h
        refine cw_skip (cw_tk rfl hb4 (cw_seq (cw_rg hnt rfl (x_as (eI rfl) (k0 rfl) <| lx_nil) (cw_ret (cw_rb (cw_rc (cw_rn ?_)))))))
        cases h
        exact ⟨rfl, sub0⟩
      · replace h := condF hb4 h
        refine cw_seq (cw_rg hnt rfl (x_ct (eT rfl) (eT rfl) rfl (k0 rfl) <| x_as (eB rfl) (k0 rfl) <| lx_nil) ?_)
        refine cw_cond rfl (fun hb5 => ?_) (fun hb5 => ?_)
        · replace h := condT hb5 h
          refine cw_skip (cw_tk rfl hb5 (cw_seq (cw_rg hnt rfl (x_as (eI rfl) (k0 rfl) <| lx_nil) (cw_ret (cw_rb (cw_rc (cw_rn ?_)))))))
          cases h
          exact ⟨rfl, sub0⟩
        · replace h := condF hb5 h
          refine cw_seq (cw_rg hnt rfl (x_ct (eT rfl) (eT rfl) rfl (k0 rfl) <| x_as (eB rfl) (k0 rfl) <| lx_nil) ?_)
          refine cw_cond rfl (fun hb6 => ?_) (fun hb6 => ?_)
          · replace h := condT hb6 h
            refine cw_skip (cw_tk rfl hb6 (cw_seq (cw_rg hnt rfl (x_as (eI rfl) (k0 rfl) <| lx_nil) (cw_ret (cw_rb (cw_rc (cw_rn ?_)))))))
            cases h
            exact ⟨rfl, sub0⟩
          · replace h := condF hb6 h
            refine cw_seq (cw_rg hnt rfl (x_ct (eT rfl) (eT rfl) rfl (k0 rfl) <| x_as (eB rfl) (k0 rfl) <| lx_nil) ?_)
            refine cw_cond rfl (fun hb7 => ?_) (fun hb7 => ?_)
            · replace h := condT hb7 h
              refine cw_skip (cw_tk rfl hb7 (cw_seq (cw_rg hnt rfl (x_as (eI rfl) (k0 rfl) <| lx_nil) (cw_ret (cw_rb (cw_rc (cw_rn ?_)))))))
              cases h
              exact ⟨rfl, sub0⟩
            · replace h := condF hb7 h
              refine cw_seq (cw_rg hnt rfl (x_ct (eT rfl) (eT rfl) rfl (k0 rfl) <| x_as (eB rfl) (k0 rfl) <| lx_nil) ?_)
              refine cw_cond rfl (fun hb8 => ?_) (fun hb8 => ?_)
              · replace h := condT hb8 h
                refine cw_skip (cw_tk rfl hb8 (cw_seq (cw_rg hnt rfl (x_as (eI rfl) (k0 rfl) <| lx_nil) (cw_ret (cw_rb (cw_rc (cw_rn ?_)))))))
                cases h
                exact ⟨rfl, sub0⟩
              · replace h := condF hb8 h
                refine cw_rg hnt rfl (x_ct (eT rfl) (eT rfl) rfl (k0 rfl) <| x_as (eB rfl) (k0 rfl) <| lx_nil) ?_
                refine cw_cond rfl (fun hb9 => ?_) (fun hb9 => ?_)
                · replace h := condT hb9 h
                  refine cw_seq (cw_rg hnt rfl (x_as (eI rfl) (k0 rfl) <| lx_nil) (cw_ret (cw_rb (cw_rc (cw_rn ?_)))))
                  cases h
                  exact ⟨rfl, sub0⟩
                · replace h := condF hb9 h
                  refine cw_seq (cw_rg hnt rfl (x_ct (eT rfl) (eT rfl) rfl (k0 rfl) <| x_as (eB rfl) (k0 rfl) <| lx_nil) ?_)
                  refine cw_cond rfl (fun hb10 => ?_) (fun hb10 => ?_)
                  · replace h := condT hb10 h
                    refine cw_seq (cw_rg hnt rfl (x_as (eI rfl) (k0 rfl) <| lx_nil) (cw_ret (cw_rb (cw_rc (cw_rn ?_)))))
                    cases h
                    exact ⟨rfl, sub0⟩
                  · replace h := condF hb10 h
                    refine cw_seq (cw_rg hnt rfl (x_ct (eT rfl) (eT rfl) rfl (k0 rfl) <| x_as (eB rfl) (k0 rfl) <| lx_nil) ?_)
                    refine cw_cond rfl (fun hb11 => ?_) (fun hb11 => ?_)
                    · replace h := condT hb11 h
                      refine cw_seq (cw_rg hnt rfl (x_as (eI rfl) (k0 rfl) <| lx_nil) (cw_ret (cw_rb (cw_rc (cw_rn ?_)))))
                      cases h
                      exact ⟨rfl, sub0⟩
                    · replace h := condF hb11 h
                      refine cw_seq (cw_rg hnt rfl (x_ct (eT rfl) (eT rfl) rfl (k0 rfl) <| x_as (eB rfl) (k0 rfl) <| lx_nil) ?_)
                      refine cw_cond rfl (fun hb12 => ?_) (fun hb12 => ?_)
                      · replace h := condT hb12 h
                        refine cw_seq (cw_rg hnt rfl (x_as (eI rfl) (k0 rfl) <| lx_nil) (cw_ret (cw_rb (cw_rc (cw_rn ?_)))))
                        cases h
                        exact ⟨rfl, sub0⟩
                      · replace h := condF hb12 h
                        refine cw_skip (cw_blk (cw_seq (cw_rg hnt rfl (x_as (eI rfl) (k0 rfl) <| lx_nil) (cw_ret (cw_rn ?_)))))
                        cases h
                        exact ⟨rfl, sub0⟩

theorem c_r1_attr (p0 : T_Entry) (p1 : Str) (r : Int) (h : s_r1_attr p0 p1 = some r) : Pu Tryz.prog 65 [.agg (enc p0), tx p1] (i64 r) := by
  refine ⟨(nfc nfe (nfc nfv nfn)), nfv, fs_start _ _ Tryz.func65 rfl Tryz.ntmps65 Tryz.results65 rfl fun X hnt hn => ?_⟩
  rw [s_r1_attr] at h
  refine cw_seq (cw_rg hnt rfl (x_bx rfl (k0 rfl) <| x_as (eI rfl) (k0 rfl) <| lx_nil) (cw_seq (cw_seq (cw_rg hnt rfl (x_as (eI rfl) (k0 rfl) <| lx_nil) ?_))))
  refine cw_cut (fun st => r1_attr_k1 = some r ∧ st = ⟨ls [], hl [], 8⟩) ?_ ?_
  · skip
    refine cw_block (cw_to (to_ren (N := 0) (n' := 3) (L := [(1, tx p1), (2, .ptr 0 0 0), (5, i64 0)]) (H := [(0, ⟨[[tx p0.Dn, ar p0.Attrs]], 2⟩)]) (id) [0] [] hn rfl rfl rfl fix0 (by decide) ⟨trv, (Tr.ptr rfl), trv, trivial⟩ ⟨.inr ⟨rfl, _, rfl, TrO.cell (.cons trv (.cons tra .nil)) rfl⟩, trivial⟩) ?_)
    refine cw_loop (fun g st => ∃ (v26 : Int), r1_attr_l1 p0 p1 g v26 = some r ∧ st = ⟨ls [(1, tx p1), (2, .ptr 0 0 0), (5, i64 v26)], hl [(0, ⟨[[tx p0.Dn, ar p0.Attrs]], 2⟩)], 3⟩) FUEL ⟨0, h, rfl⟩ ?_
    rintro g _ ⟨v26, h, rfl⟩
    rcases g with _ | g1
    · rw [r1_attr_l1] at h; cases h
    rw [r1_attr_l1] at h
    refine cw_seq (cw_seq (cw_rg hnt rfl (x_mv (eI rfl) (k0 rfl) <| x_fp F24_1 (eP rfl) (k0 rfl) <| x_ld L22 (eP rfl) rfl (sX (ar p0.Attrs) rfl) (k0 rfl) <| x_lnA E22 (eX (ar p0.Attrs) rfl) (k0 rfl) <| x_ci (eX (.val (.int .i64 v26)) rfl) (eX (.val (.int .i64 (p0.Attrs.length : Int))) rfl) rfl (k0 rfl) <| lx_nil) ?_))
    refine cw_cond rfl (fun hb33 => ?_) (fun hb33 => ?_)
    · replace h := condT hb33 h
      refine cw_skip (cw_seq (cw_block (cw_seq ?_)))
      obtain ⟨v34, hv34, h⟩ := bindE h
      obtain ⟨v35, hv35, h⟩ := bindE h
      obtain ⟨v36, hv36, h⟩ := bindE h
      refine cw_rg hnt rfl (x_fp F24_1 (eP rfl) (k0 rfl) <| x_ld L22 (eP rfl) rfl (sX (ar p0.Attrs) rfl) (k0 rfl) <| x_mv (eI rfl) (k0 rfl) <| x_ia E22 rfl (eX (ar p0.Attrs) rfl) rfl hv34 (k0 rfl) <| x_fq F42_0 (eQ rfl) (k0 rfl) <| x_ld L9 (eQ rfl) rfl (sX (tx v34.Typ) rfl) (k0 rfl) <| x_pu (eF rfl) P21 (c_r1_Lower v34.Typ v35 hv35) rfl (k0 rfl) <| x_mv (eT rfl) (k0 rfl) <| x_pu (eF rfl) P21 (c_r1_Lower p1 v36 hv36) rfl (k0 rfl) <| x_ct (eT rfl) (eT rfl) rfl (k0 rfl) <| lx_nil) ?_
      refine cw_cond rfl (fun hb37 => ?_) (fun hb37 => ?_)
      · replace h := condT hb37 h
        refine cw_seq (cw_rg hnt rfl (x_mv (eI rfl) (k0 rfl) <| x_as (eI rfl) (k0 rfl) <| lx_nil) (cw_ret (cw_rb (cw_rc (cw_rt (cw_rb (cw_rt (cw_rc (cw_rn ?_)))))))))
        cases h
        exact ⟨rfl, sub0⟩
      · replace h := condF hb37 h
        refine cw_skip (cw_blk ?_)
        obtain ⟨v38, hv38, h⟩ := bindE h
        refine cw_rg hnt rfl (x_mv (eI rfl) (k0 rfl) <| x_ai (eI rfl) (eI rfl) hv38 (k0 rfl) <| x_as (eI rfl) (k0 rfl) <| lx_nil) (cw_nil ?_)
        exact ⟨g1, _, Nat.lt_succ_self _, (to_ren (N := 0) (n' := 3) (L := [(1, tx p1), (2, .ptr 0 0 0), (5, i64 v38)]) (H := [(0, ⟨[[tx p0.Dn, ar p0.Attrs]], 2⟩)]) (id) [0] [] hn rfl rfl rfl fix0 (by decide) ⟨trv, (Tr.ptr rfl), trv, trivial⟩ ⟨.inr ⟨rfl, _, rfl, TrO.cell (.cons trv (.cons tra .nil)) rfl⟩, trivial⟩), v38, h, rfl⟩
    · replace h := condF hb33 h
      refine cw_exit (cw_xc (cw_xt (cw_xb (cw_nil ?_))))
      exact ⟨_, (to_ren (N := 0) (n' := 8) (L := []) (H := []) (id) [] [] hn rfl rfl rfl fix0 .nil trivial trivial), h, rfl⟩
  · rintro _ ⟨h, rfl⟩
    rw [r1_attr_k1] at h
    refine cw_seq (cw_rg hnt rfl (x_as (eI rfl) (k0 rfl) <| lx_nil) (cw_ret (cw_rn ?_)))
    cases h
    exact ⟨rfl, sub0⟩

theorem c_r1_Digits (p0 : Int) (r : Str) (h : s_r1_Digits p0 = some r) : Pu Tryz.prog 19 [i64 p0] (tx r) := by
  refine ⟨(nfc nfv nfn), nfv, fs_start _ _ Tryz.func19 rfl Tryz.ntmps19 Tryz.results19 rfl fun X hnt hn => ?_⟩
  rw [s_r1_Digits] at h
  refine cw_seq (cw_rg hnt rfl (x_as (eT rfl) (k0 rfl) <| lx_nil) (cw_seq (cw_rg hnt rfl (x_mv (eI rfl) (k0 rfl) <| x_cvI U3 W76 (eZ rfl) (k0 rfl) <| x_as (eZ rfl) (k0 rfl) <| x_as (eT rfl) (k0 rfl) <| lx_nil) (cw_seq (cw_seq (cw_rg hnt rfl (x_mv (eI rfl) (k0 rfl) <| x_ci (eX (.val (.int .i64 p0)) rfl) (eX (.val (.int .i64 0)) rfl) rfl (k0 rfl) <| lx_nil) ?_))))))
  refine cw_cut (fun st => ∃ (v1 : Int), r1_Digits_k1 p0 v1 = some r ∧ st = ⟨ls [(0, i64 p0), (3, .val (.int .u64 v1)), (4, tx [])], hl [], 10⟩) ?_ ?_
  · skip
    refine cw_cond rfl (fun hb42 => ?_) (fun hb42 => ?_)
    · replace h := condT hb42 h
      refine cw_rg hnt rfl (x_mv (eZ rfl) (k0 rfl) <| x_neg (eZ rfl) (k0 rfl) <| x_as (eZ rfl) (k0 rfl) <| lx_nil) (cw_nil ?_)
      exact ⟨_, (to_ren (N := 0) (n' := 10) (L := [(0, i64 p0), (3, .val (.int .u64 (IntKind.wrap .u64 (0 - (IntKind.wrap .u64 p0))))), (4, tx [])]) (H := []) (id) [] [] hn rfl rfl rfl fix0 .nil ⟨trv, trv, trv, trivial⟩ trivial), (IntKind.wrap .u64 (0 - (IntKind.wrap .u64 p0))), h, rfl⟩
    · replace h := condF hb42 h
      refine cw_skip (cw_nil ?_)
      exact ⟨_, (to_ren (N := 0) (n' := 10) (L := [(0, i64 p0), (3, .val (.int .u64 (IntKind.wrap .u64 p0))), (4, tx [])]) (H := []) (id) [] [] hn rfl rfl rfl fix0 .nil ⟨trv, trv, trv, trivial⟩ trivial), (IntKind.wrap .u64 p0), h, rfl⟩
  · rintro _ ⟨v1, h, rfl⟩
    rw [r1_Digits_k1] at h
    refine cw_seq ?_
    refine cw_cut (fun st => ∃ (v19 : Int) (v20 : Str), r1_Digits_k2 p0 v19 v20 = some r ∧ st = ⟨ls [(0, i64 p0), (3, .val (.int .u64 v19)), (4, tx v20)], hl [], 12⟩) ?_ ?_
    · skip
      refine cw_block (cw_to (to_ren (N := 0) (n' := 10) (L := [(0, i64 p0), (3, .val (.int .u64 v1)), (4, tx [])]) (H := []) (id) [] [] hn rfl rfl rfl fix0 .nil ⟨trv, trv, trv, trivial⟩ trivial) ?_)
      refine cw_loop (fun g st => ∃ (v30 : Int) (v31 : Str), r1_Digits_l1 p0 g v30 v31 = some r ∧ st = ⟨ls [(0, i64 p0), (3, .val (.int .u64 v30)), (4, tx v31)], hl [], 10⟩) FUEL ⟨v1, [], h, rfl⟩ ?_
      rintro g _ ⟨v30, v31, h, rfl⟩
      rcases g with _ | g1
      · rw [r1_Digits_l1] at h; cases h
      rw [r1_Digits_l1] at h
      refine cw_seq (cw_seq (cw_rg hnt rfl (x_mv (eZ rfl) (k0 rfl) <| x_ci (eX (.val (.int .u64 v30)) rfl) (eX (.val (.int .u64 10)) rfl) rfl (k0 rfl) <| lx_nil) ?_))
      refine cw_cond rfl (fun hb37 => ?_) (fun hb37 => ?_)
      · replace h := condT hb37 h
        refine cw_skip (cw_block (cw_seq ?_))
        obtain ⟨v38, hv38, h⟩ := bindE h
        obtain ⟨v39, hv39, h⟩ := bindE h
        obtain ⟨v40, hv40, h⟩ := bindE h
        refine cw_rg hnt rfl (x_mv (eZ rfl) (k0 rfl) <| x_az (eZ rfl) (eZ rfl) hv38 (k0 rfl) <| x_az (eZ rfl) (eZ rfl) hv39 (k0 rfl) <| x_cvZU U76 W5 (eZ rfl) (k0 rfl) <| x_bsA ([(toU8 v39)] : Str) E38 rfl rfl (k0 rfl) <| x_tosA (s := [(toU8 v39)]) Y38 T9 rfl (k0 rfl) <| x_mv (eT rfl) (k0 rfl) <| x_cat (eT rfl) (eT rfl) hv40 (k0 rfl) <| x_as (eT rfl) (k0 rfl) <| lx_nil) ?_
        obtain ⟨v41, hv41, h⟩ := bindE h
        refine cw_rg hnt rfl (x_mv (eZ rfl) (k0 rfl) <| x_az (eZ rfl) (eZ rfl) hv41 (k0 rfl) <| x_as (eZ rfl) (k0 rfl) <| lx_nil) (cw_blk (cw_nil ?_))
        exact ⟨g1, _, Nat.lt_succ_self _, (to_ren (N := 0) (n' := 10) (L := [(0, i64 p0), (3, .val (.int .u64 v41)), (4, tx v40)]) (H := []) (id) [] [] hn rfl rfl rfl fix0 .nil ⟨trv, trv, trv, trivial⟩ trivial), v41, v40, h, rfl⟩
      · replace h := condF hb37 h
        refine cw_exit (cw_xc (cw_xt (cw_xb (cw_nil ?_))))
        exact ⟨_, (to_ren (N := 0) (n' := 12) (L := [(0, i64 p0), (3, .val (.int .u64 v30)), (4, tx v31)]) (H := []) (id) [] [] hn rfl rfl rfl fix0 .nil ⟨trv, trv, trv, trivial⟩ trivial), v30, v31, h, rfl⟩
    · rintro _ ⟨v19, v20, h, rfl⟩
      rw [r1_Digits_k2] at h
      refine cw_seq ?_
      obtain ⟨v21, hv21, h⟩ := bindE h
      obtain ⟨v22, hv22, h⟩ := bindE h
      refine cw_rg hnt rfl (x_mv (eZ rfl) (k0 rfl) <| x_az (eZ rfl) (eZ rfl) hv21 (k0 rfl) <| x_cvZU U76 W5 (eZ rfl) (k0 rfl) <| x_bsA ([(toU8 v21)] : Str) E38 rfl rfl (k0 rfl) <| x_tosA (s := [(toU8 v21)]) Y38 T9 rfl (k0 rfl) <| x_mv (eT rfl) (k0 rfl) <| x_cat (eT rfl) (eT rfl) hv22 (k0 rfl) <| x_as (eT rfl) (k0 rfl) <| lx_nil) (cw_seq (cw_seq (cw_rg hnt rfl (x_mv (eI rfl) (k0 rfl) <| x_ci (eX (.val (.int .i64 p0)) rfl) (eX (.val (.int .i64 0)) rfl) rfl (k0 rfl) <| lx_nil) ?_)))
      refine cw_cond rfl (fun hb23 => ?_) (fun hb23 => ?_)
      · replace h := condT hb23 h
        refine cw_seq ?_
        obtain ⟨v24, hv24, h⟩ := bindE h
        refine cw_rg hnt rfl (x_mv (eT rfl) (k0 rfl) <| x_cat (eT rfl) (eT rfl) hv24 (k0 rfl) <| x_as (eT rfl) (k0 rfl) <| lx_nil) (cw_ret (cw_rc (cw_rn ?_)))
        cases h
        exact ⟨rfl, sub0⟩
      · replace h := condF hb23 h
        refine cw_skip (cw_seq (cw_rg hnt rfl (x_mv (eT rfl) (k0 rfl) <| x_as (eT rfl) (k0 rfl) <| lx_nil) (cw_ret (cw_rn ?_))))
        cases h
        exact ⟨rfl, sub0⟩

theorem c_r1_Number (p0 : Str) (r : T_R1Num) (h : s_r1_Number p0 = some r) : Pu Tryz.prog 91 [tx p0] (.agg (enc r)) := by
  refine ⟨(nfc nfv nfn), nfe, fs_start _ _ Tryz.func91 rfl Tryz.ntmps91 Tryz.results91 rfl fun X hnt hn => ?_⟩
  rw [s_r1_Number] at h
  refine cw_seq (cw_rg hnt rfl (x_al Z119 (k0 rfl) <| lx_nil) (cw_seq (cw_rg hnt rfl (x_as (eI rfl) (k0 rfl) <| x_as (eI rfl) (k0 rfl) <| lx_nil) (cw_seq (cw_seq ?_)))))
  obtain ⟨v3, hq, h⟩ := bindE h
  refine cw_rl [(12, bo v3)] (D := [6, 7, 8, 9, 10, 11, 12]) hnt rfl rfl (by
    rcases Bool.eq_false_or_eq_true ((!(p0 == []))) with hb1 | hb1
    · replace hq := condT hb1 hq
      obtain ⟨v2, hv2, hq⟩ := bindE hq
      replace hq := Option.some.inj hq
      subst hq
      exact ⟨_, _, x_mv (eT rfl) (k0 rfl) <| x_ct (eT rfl) (eT rfl) rfl (k0 rfl) <| x_mv (eB rfl) (k0 rfl) <| x_mv (eT rfl) (k1 rfl rfl rfl (congrArg bo hb1)) <| x_ixT T9 (eT rfl) rfl hv2 (k1 rfl rfl rfl (congrArg bo hb1)) <| x_cu (eU v2 rfl) (eU 45 rfl) rfl (k1 rfl rfl rfl (congrArg bo hb1)) <| x_pt rfl hb1 (eB rfl) (k0 rfl) <| lx_nil, ⟨rfl, trivial⟩⟩
    · replace hq := condF hb1 hq
      replace hq := Option.some.inj hq
      subst hq
      exact ⟨_, _, x_mv (eT rfl) (k0 rfl) <| x_ct (eT rfl) (eT rfl) rfl (k0 rfl) <| x_mv (eB rfl) (k0 rfl) <| lx_off rfl rfl (congrArg bo hb1) rfl <| lx_off rfl rfl (congrArg bo hb1) rfl <| lx_off rfl rfl (congrArg bo hb1) rfl <| x_pf rfl hb1 (eB rfl) (k0 rfl) <| lx_nil, ⟨rfl, trivial⟩⟩) ?_
  refine cw_cut (fun st => ∃ (v4 : Int), r1_Number_k1 p0 v4 = some r ∧ st = ⟨ls [(0, tx p0), (2, .ptr 0 0 0), (3, i64 0), (4, i64 v4)], hl [(0, ⟨[[i64 0, bo false]], 2⟩)], 11⟩) ?_ ?_
  · skip
    refine cw_cond rfl (fun hb79 => ?_) (fun hb79 => ?_)
    · replace h := condT hb79 h
      refine cw_rg hnt rfl (x_as (eI rfl) (k0 rfl) <| lx_nil) (cw_nil ?_)
      exact ⟨_, (to_ren (N := 0) (n' := 11) (L := [(0, tx p0), (2, .ptr 0 0 0), (3, i64 0), (4, i64 1)]) (H := [(0, ⟨[[i64 0, bo false]], 2⟩)]) (id) [0] [] hn rfl rfl rfl fix0 (by decide) ⟨trv, (Tr.ptr rfl), trv, trv, trivial⟩ ⟨.inr ⟨rfl, _, rfl, TrO.cell (.cons trv (.cons trv .nil)) rfl⟩, trivial⟩), 1, h, rfl⟩
    · replace h := condF hb79 h
      refine cw_skip (cw_nil ?_)
      exact ⟨_, (to_ren (N := 0) (n' := 11) (L := [(0, tx p0), (2, .ptr 0 0 0), (3, i64 0), (4, i64 0)]) (H := [(0, ⟨[[i64 0, bo false]], 2⟩)]) (id) [0] [] hn rfl rfl rfl fix0 (by decide) ⟨trv, (Tr.ptr rfl), trv, trv, trivial⟩ ⟨.inr ⟨rfl, _, rfl, TrO.cell (.cons trv (.cons trv .nil)) rfl⟩, trivial⟩), 0, h, rfl⟩
  · rintro _ ⟨v4, h, rfl⟩
    rw [r1_Number_k1] at h
    refine cw_seq (cw_seq ?_)
    obtain ⟨v7, hq, h⟩ := bindE h
    refine cw_rl [(23, bo v7)] (D := [13, 14, 15, 16, 17, 18, 19, 20, 21, 22, 23]) hnt rfl rfl (by
      rcases Bool.eq_false_or_eq_true (((p0.length : Int) == v4)) with hb5 | hb5
      · replace hq := condT hb5 hq
        replace hq := Option.some.inj hq
        subst hq
        exact ⟨_, _, x_mv (eT rfl) (k0 rfl) <| x_lnT T9 (eT rfl) (k0 rfl) <| x_mv (eI rfl) (k0 rfl) <| x_ci (eX (.val (.int .i64 (p0.length : Int))) rfl) (eX (.val (.int .i64 v4)) rfl) rfl (k0 rfl) <| x_mv (eB rfl) (k0 rfl) <| lx_off rfl rfl (congrArg bo hb5) rfl <| lx_off rfl rfl (congrArg bo hb5) rfl <| lx_off rfl rfl (congrArg bo hb5) rfl <| lx_off rfl rfl (congrArg bo hb5) rfl <| lx_off rfl rfl (congrArg bo hb5) rfl <| x_pt rfl hb5 (eB rfl) (k0 rfl) <| lx_nil, ⟨rfl, trivial⟩⟩
      · replace hq := condF hb5 hq
        obtain ⟨v6, hv6, hq⟩ := bindE hq
        replace hq := Option.some.inj hq
        subst hq
        exact ⟨_, _, x_mv (eT rfl) (k0 rfl) <| x_lnT T9 (eT rfl) (k0 rfl) <| x_mv (eI rfl) (k0 rfl) <| x_ci (eX (.val (.int .i64 (p0.length : Int))) rfl) (eX (.val (.int .i64 v4)) rfl) rfl (k0 rfl) <| x_mv (eB rfl) (k0 rfl) <| x_mv (eT rfl) (k1 rfl rfl rfl (congrArg bo hb5)) <| x_lnT T9 (eT rfl) (k1 rfl rfl rfl (congrArg bo hb5)) <| x_mv (eI rfl) (k1 rfl rfl rfl (congrArg bo hb5)) <| x_ai (eI rfl) (eI rfl) hv6 (k1 rfl rfl rfl (congrArg bo hb5)) <| x_ci (eX (.val (.int .i64 v6)) rfl) (eX (.val (.int .i64 15)) rfl) rfl (k1 rfl rfl rfl (congrArg bo hb5)) <| x_pf rfl hb5 (eB rfl) (k0 rfl) <| lx_nil, ⟨rfl, trivial⟩⟩) ?_
    refine cw_cond rfl (fun hb8 => ?_) (fun hb8 => ?_)
    · replace h := condT hb8 h
      refine cw_seq (cw_rg hnt rfl (x_bd B119 (sX3 ([i64 0, bo false]) rfl) (k0 rfl) <| x_st L119 (eP rfl) rfl rfl rfl rfl (k0 rfl) <| lx_nil) (cw_ret (cw_rc (cw_rn ?_))))
      cases h
      exact ⟨rfl, sub0⟩
    · replace h := condF hb8 h
      refine cw_skip (cw_seq (cw_seq (cw_rg hnt rfl (x_mv (eI rfl) (k0 rfl) <| x_as (eI rfl) (k0 rfl) <| lx_nil) ?_)))
      refine cw_cut (fun st => ∃ (v41 : Int), r1_Number_k2 p0 v4 v41 = some r ∧ st = ⟨ls [(0, tx p0), (2, .ptr 0 0 0), (3, i64 v41), (4, i64 v4)], hl [(0, ⟨[[i64 0, bo false]], 2⟩)], 28⟩) ?_ ?_
      · skip
        refine cw_block (cw_to (to_ren (N := 0) (n' := 24) (L := [(0, tx p0), (2, .ptr 0 0 0), (3, i64 0), (4, i64 v4), (5, i64 v4)]) (H := [(0, ⟨[[i64 0, bo false]], 2⟩)]) (id) [0] [] hn rfl rfl rfl fix0 (by decide) ⟨trv, (Tr.ptr rfl), trv, trv, trv, trivial⟩ ⟨.inr ⟨rfl, _, rfl, TrO.cell (.cons trv (.cons trv .nil)) rfl⟩, trivial⟩) ?_)
        refine cw_loop (fun g st => ∃ (v57 : Int) (v58 : Int), r1_Number_l1 p0 v4 g v57 v58 = some r ∧ st = ⟨ls [(0, tx p0), (2, .ptr 0 0 0), (3, i64 v57), (4, i64 v4), (5, i64 v58)], hl [(0, ⟨[[i64 0, bo false]], 2⟩)], 24⟩) FUEL ⟨0, v4, h, rfl⟩ ?_
        rintro g _ ⟨v57, v58, h, rfl⟩
        rcases g with _ | g1
        · rw [r1_Number_l1] at h; cases h
        rw [r1_Number_l1] at h
        refine cw_seq (cw_seq (cw_rg hnt rfl (x_mv (eI rfl) (k0 rfl) <| x_mv (eT rfl) (k0 rfl) <| x_lnT T9 (eT rfl) (k0 rfl) <| x_ci (eX (.val (.int .i64 v58)) rfl) (eX (.val (.int .i64 (p0.length : Int))) rfl) rfl (k0 rfl) <| lx_nil) ?_))
        refine cw_cond rfl (fun hb69 => ?_) (fun hb69 => ?_)
        · replace h := condT hb69 h
          refine cw_skip (cw_seq (cw_block (cw_seq (cw_seq ?_))))
          obtain ⟨v73, hq, h⟩ := bindE h
          refine cw_rl [(41, bo v73)] (D := [32, 33, 34, 35, 36, 37, 38, 39, 40, 41]) hnt rfl rfl (by
            obtain ⟨v70, hv70, hq⟩ := bindE hq
            rcases Bool.eq_false_or_eq_true ((decide (v70 < 48))) with hb71 | hb71
            · replace hq := condT hb71 hq
              replace hq := Option.some.inj hq
              subst hq
              exact ⟨_, _, x_mv (eT rfl) (k0 rfl) <| x_mv (eI rfl) (k0 rfl) <| x_ixT T9 (eT rfl) rfl hv70 (k0 rfl) <| x_cu (eU v70 rfl) (eU 48 rfl) rfl (k0 rfl) <| x_mv (eB rfl) (k0 rfl) <| lx_off rfl rfl (congrArg bo hb71) rfl <| lx_off rfl rfl (congrArg bo hb71) rfl <| lx_off rfl rfl (congrArg bo hb71) rfl <| lx_off rfl rfl (congrArg bo hb71) rfl <| x_pt rfl hb71 (eB rfl) (k0 rfl) <| lx_nil, ⟨rfl, trivial⟩⟩
            · replace hq := condF hb71 hq
              obtain ⟨v72, hv72, hq⟩ := bindE hq
              replace hq := Option.some.inj hq
              subst hq
              exact ⟨_, _, x_mv (eT rfl) (k0 rfl) <| x_mv (eI rfl) (k0 rfl) <| x_ixT T9 (eT rfl) rfl hv70 (k0 rfl) <| x_cu (eU v70 rfl) (eU 48 rfl) rfl (k0 rfl) <| x_mv (eB rfl) (k0 rfl) <| x_mv (eT rfl) (k1 rfl rfl rfl (congrArg bo hb71)) <| x_mv (eI rfl) (k1 rfl rfl rfl (congrArg bo hb71)) <| x_ixT T9 (eT rfl) rfl hv72 (k1 rfl rfl rfl (congrArg bo hb71)) <| x_cu (eU v72 rfl) (eU 57 rfl) rfl (k1 rfl rfl rfl (congrArg bo hb71)) <| x_pf rfl hb71 (eB rfl) (k0 rfl) <| lx_nil, ⟨rfl, trivial⟩⟩) ?_
          refine cw_cond rfl (fun hb74 => ?_) (fun hb74 => ?_)
          · replace h := condT hb74 h
            refine cw_seq (cw_rg hnt rfl (x_bd B119 (sX3 ([i64 0, bo false]) rfl) (k0 rfl) <| x_st L119 (eP rfl) rfl rfl rfl rfl (k0 rfl) <| lx_nil) (cw_ret (cw_rc (cw_rb (cw_rc (cw_rt (cw_rb (cw_rt (cw_rc (cw_rn ?_))))))))))
            cases h
            exact ⟨rfl, sub0⟩
          · replace h := condF hb74 h
            refine cw_skip ?_
            obtain ⟨v75, hv75, h⟩ := bindE h
            obtain ⟨v76, hv76, h⟩ := bindE h
            obtain ⟨v77, hv77, h⟩ := bindE h
            refine cw_rg hnt rfl (x_mv (eI rfl) (k0 rfl) <| x_ai (eI rfl) (eI rfl) hv75 (k0 rfl) <| x_mv (eT rfl) (k0 rfl) <| x_mv (eI rfl) (k0 rfl) <| x_ixT T9 (eT rfl) rfl hv76 (k0 rfl) <| x_au (eU v76 rfl) (eU 48 rfl) rfl (k0 rfl) <| x_cvUI U5 W3 (eU (v76 - 48) rfl) (k0 rfl) <| x_ai (eI rfl) (eI rfl) hv77 (k0 rfl) <| x_as (eI rfl) (k0 rfl) <| lx_nil) (cw_blk ?_)
            obtain ⟨v78, hv78, h⟩ := bindE h
            refine cw_rg hnt rfl (x_mv (eI rfl) (k0 rfl) <| x_ai (eI rfl) (eI rfl) hv78 (k0 rfl) <| x_as (eI rfl) (k0 rfl) <| lx_nil) (cw_nil ?_)
            exact ⟨g1, _, Nat.lt_succ_self _, (to_ren (N := 0) (n' := 24) (L := [(0, tx p0), (2, .ptr 0 0 0), (3, i64 v77), (4, i64 v4), (5, i64 v78)]) (H := [(0, ⟨[[i64 0, bo false]], 2⟩)]) (id) [0] [] hn rfl rfl rfl fix0 (by decide) ⟨trv, (Tr.ptr rfl), trv, trv, trv, trivial⟩ ⟨.inr ⟨rfl, _, rfl, TrO.cell (.cons trv (.cons trv .nil)) rfl⟩, trivial⟩), v77, v78, h, rfl⟩
        · replace h := condF hb69 h
          refine cw_exit (cw_xc (cw_xt (cw_xb (cw_nil ?_))))
          exact ⟨_, (to_ren (N := 0) (n' := 28) (L := [(0, tx p0), (2, .ptr 0 0 0), (3, i64 v57), (4, i64 v4)]) (H := [(0, ⟨[[i64 0, bo false]], 2⟩)]) (id) [0] [] hn rfl rfl rfl fix0 (by decide) ⟨trv, (Tr.ptr rfl), trv, trv, trivial⟩ ⟨.inr ⟨rfl, _, rfl, TrO.cell (.cons trv (.cons trv .nil)) rfl⟩, trivial⟩), v57, h, rfl⟩
      · rintro _ ⟨v41, h, rfl⟩
        rw [r1_Number_k2] at h
        refine cw_seq (cw_seq (cw_rg hnt rfl (x_mv (eI rfl) (k0 rfl) <| x_ci (eX (.val (.int .i64 v4)) rfl) (eX (.val (.int .i64 1)) rfl) rfl (k0 rfl) <| lx_nil) ?_))
        refine cw_cond rfl (fun hb42 => ?_) (fun hb42 => ?_)
        · replace h := condT hb42 h
          refine cw_rg hnt rfl (x_mv (eI rfl) (k0 rfl) <| x_neg (eZ rfl) (k0 rfl) <| x_as (eI rfl) (k0 rfl) <| lx_nil) (cw_seq (cw_seq ?_))
          obtain ⟨v43, hv43, h⟩ := bindE h
          refine cw_rg hnt rfl (x_mv (eI rfl) (k0 rfl) <| x_pu (eF rfl) P19 (c_r1_Digits (IntKind.wrap .i64 (0 - v41)) v43 hv43) rfl (k0 rfl) <| x_mv (eT rfl) (k0 rfl) <| x_ct (eT rfl) (eT rfl) rfl (k0 rfl) <| lx_nil) ?_
          refine cw_cond rfl (fun hb44 => ?_) (fun hb44 => ?_)
          · replace h := condT hb44 h
            refine cw_seq (cw_rg hnt rfl (x_bd B119 (sX3 ([i64 0, bo false]) rfl) (k0 rfl) <| x_st L119 (eP rfl) rfl rfl rfl rfl (k0 rfl) <| lx_nil) (cw_ret (cw_rc (cw_rn ?_))))
            cases h
            exact ⟨rfl, sub0⟩
          · replace h := condF hb44 h
            refine cw_skip (cw_seq (cw_rg hnt rfl (x_mv (eI rfl) (k0 rfl) <| x_bd B119 (sX3 ([i64 (IntKind.wrap .i64 (0 - v41)), bo true]) rfl) (k0 rfl) <| x_st L119 (eP rfl) rfl rfl rfl rfl (k0 rfl) <| lx_nil) (cw_ret (cw_rn ?_))))
            cases h
            exact ⟨rfl, sub0⟩
        · replace h := condF hb42 h
          refine cw_skip (cw_seq (cw_seq ?_))
          obtain ⟨v45, hv45, h⟩ := bindE h
          refine cw_rg hnt rfl (x_mv (eI rfl) (k0 rfl) <| x_pu (eF rfl) P19 (c_r1_Digits v41 v45 hv45) rfl (k0 rfl) <| x_mv (eT rfl) (k0 rfl) <| x_ct (eT rfl) (eT rfl) rfl (k0 rfl) <| lx_nil) ?_
          refine cw_cond rfl (fun hb46 => ?_) (fun hb46 => ?_)
          · replace h := condT hb46 h
            refine cw_seq (cw_rg hnt rfl (x_bd B119 (sX3 ([i64 0, bo false]) rfl) (k0 rfl) <| x_st L119 (eP rfl) rfl rfl rfl rfl (k0 rfl) <| lx_nil) (cw_ret (cw_rc (cw_rn ?_))))
            cases h
            exact ⟨rfl, sub0⟩
          · replace h := condF hb46 h
            refine cw_skip (cw_seq (cw_rg hnt rfl (x_mv (eI rfl) (k0 rfl) <| x_bd B119 (sX3 ([i64 v41, bo true]) rfl) (k0 rfl) <| x_st L119 (eP rfl) rfl rfl rfl rfl (k0 rfl) <| lx_nil) (cw_ret (cw_rn ?_))))
            cases h
            exact ⟨rfl, sub0⟩

theorem c_r1_Norm (p0 : Str) (p1 : Str) (r : T_R1Said) (h : s_r1_Norm p0 p1 = some r) : Pu Tryz.prog 66 [tx p0, tx p1] (.agg (enc r)) := by
  refine ⟨(nfc nfv (nfc nfv nfn)), nfe, fs_start _ _ Tryz.func66 rfl Tryz.ntmps66 Tryz.results66 rfl fun X hnt hn => ?_⟩
  rw [s_r1_Norm] at h
  refine cw_seq (cw_rg hnt rfl (x_al Z72 (k0 rfl) <| lx_nil) (cw_seq (cw_seq ?_)))
  obtain ⟨v2, hq, h⟩ := bindE h
  refine cw_rl [(13, bo v2)] (D := [7, 8, 9, 10, 11, 12, 13]) hnt rfl rfl (by
    rcases Bool.eq_false_or_eq_true ((p1 == [])) with hb1 | hb1
    · replace hq := condT hb1 hq
      replace hq := Option.some.inj hq
      subst hq
      exact ⟨_, _, x_mv (eT rfl) (k0 rfl) <| x_ct (eT rfl) (eT rfl) rfl (k0 rfl) <| x_mv (eB rfl) (k0 rfl) <| lx_off rfl rfl (congrArg bo hb1) rfl <| lx_off rfl rfl (congrArg bo hb1) rfl <| lx_off rfl rfl (congrArg bo hb1) rfl <| x_pt rfl hb1 (eB rfl) (k0 rfl) <| lx_nil, ⟨rfl, trivial⟩⟩
    · replace hq := condF hb1 hq
      replace hq := Option.some.inj hq
      subst hq
      exact ⟨_, _, x_mv (eT rfl) (k0 rfl) <| x_ct (eT rfl) (eT rfl) rfl (k0 rfl) <| x_mv (eB rfl) (k0 rfl) <| x_mv (eT rfl) (k1 rfl rfl rfl (congrArg bo hb1)) <| x_lnT T9 (eT rfl) (k1 rfl rfl rfl (congrArg bo hb1)) <| x_ci (eX (.val (.int .i64 (p1.length : Int))) rfl) (eX (.val (.int .i64 100)) rfl) rfl (k1 rfl rfl rfl (congrArg bo hb1)) <| x_pf rfl hb1 (eB rfl) (k0 rfl) <| lx_nil, ⟨rfl, trivial⟩⟩) ?_
  refine cw_cond rfl (fun hb3 => ?_) (fun hb3 => ?_)
  · replace h := condT hb3 h
    refine cw_seq (cw_rg hnt rfl (x_bd B72 (sX3 ([tx [], bo false]) rfl) (k0 rfl) <| x_st L72 (eP rfl) rfl rfl rfl rfl (k0 rfl) <| lx_nil) (cw_ret (cw_rc (cw_rn ?_))))
    cases h
    exact ⟨rfl, sub0⟩
  · replace h := condF hb3 h
    refine cw_skip (cw_seq (cw_seq ?_))
    obtain ⟨v4, hv4, h⟩ := bindE h
    refine cw_rg hnt rfl (x_mv (eT rfl) (k0 rfl) <| x_pu (eF rfl) P64 (c_r1_Rule p0 v4 hv4) rfl (k0 rfl) <| lx_nil) (cw_block (cw_seq (cw_rg hnt rfl (x_ci (eX (.val (.int .i64 v4)) rfl) (eX (.val (.int .i64 1)) rfl) rfl (k0 rfl) <| x_as (eB rfl) (k0 rfl) <| lx_nil) ?_)))
    refine cw_cond rfl (fun hb5 => ?_) (fun hb5 => ?_)
    · replace h := condT hb5 h
      refine cw_seq ?_
      obtain ⟨v6, hv6, h⟩ := bindE h
      refine cw_rg hnt rfl (x_mv (eT rfl) (k0 rfl) <| x_pu (eF rfl) P63 (c_r1_Fold p1 v6 hv6) rfl (k0 rfl) <| x_as (eT rfl) (k0 rfl) <| lx_nil) (cw_seq (cw_rg hnt rfl (x_mv (eT rfl) (k0 rfl) <| x_mv (eT rfl) (k0 rfl) <| x_ct (eT rfl) (eT rfl) rfl (k0 rfl) <| x_bd B72 (sX3 ([tx v6, bo (!(v6 == []))]) rfl) (k0 rfl) <| x_st L72 (eP rfl) rfl rfl rfl rfl (k0 rfl) <| lx_nil) (cw_ret (cw_rb (cw_rc (cw_rn ?_))))))
      cases h
      exact ⟨rfl, sub0⟩
    · replace h := condF hb5 h
      refine cw_seq (cw_rg hnt rfl (x_ci (eX (.val (.int .i64 v4)) rfl) (eX (.val (.int .i64 2)) rfl) rfl (k0 rfl) <| x_as (eB rfl) (k0 rfl) <| lx_nil) ?_)
      refine cw_cond rfl (fun hb7 => ?_) (fun hb7 => ?_)
      · replace h := condT hb7 h
        refine cw_seq ?_
        obtain ⟨v8, hv8, h⟩ := bindE h
        refine cw_rg hnt rfl (x_mv (eT rfl) (k0 rfl) <| x_pu (eF rfl) P91 (c_r1_Number p1 v8 hv8) rfl (k0 rfl) <| x_fd f119_1 (eG rfl) (sX (bo v8.Ok) rfl) (k0 rfl) <| lx_nil) ?_
        refine cw_cond rfl (fun hb9 => ?_) (fun hb9 => ?_)
        · replace h := condT hb9 h
          refine cw_seq (cw_rg hnt rfl (x_mv (eT rfl) (k0 rfl) <| x_bd B72 (sX3 ([tx p1, bo true]) rfl) (k0 rfl) <| x_st L72 (eP rfl) rfl rfl rfl rfl (k0 rfl) <| lx_nil) (cw_ret (cw_rb (cw_rc (cw_rn ?_)))))
          cases h
          exact ⟨rfl, sub0⟩
        · replace h := condF hb9 h
          refine cw_skip (cw_blk (cw_seq (cw_rg hnt rfl (x_bd B72 (sX3 ([tx [], bo false]) rfl) (k0 rfl) <| x_st L72 (eP rfl) rfl rfl rfl rfl (k0 rfl) <| lx_nil) (cw_ret (cw_rn ?_)))))
          cases h
          exact ⟨rfl, sub0⟩
      · replace h := condF hb7 h
        refine cw_seq (cw_rg hnt rfl (x_ci (eX (.val (.int .i64 v4)) rfl) (eX (.val (.int .i64 3)) rfl) rfl (k0 rfl) <| x_as (eB rfl) (k0 rfl) <| lx_nil) ?_)
        refine cw_cond rfl (fun hb10 => ?_) (fun hb10 => ?_)
        · replace h := condT hb10 h
          refine cw_seq ?_
          obtain ⟨v11, hv11, h⟩ := bindE h
          refine cw_rg hnt rfl (x_mv (eT rfl) (k0 rfl) <| x_pu (eF rfl) P37 (c_r1_Key p1 v11 hv11) rfl (k0 rfl) <| x_al Z72 (k0 rfl) <| x_st L72 (eP rfl) rfl rfl rfl rfl (k0 rfl) <| lx_nil) (cw_seq ?_)
          obtain ⟨v13, hq, h⟩ := bindE h
          refine cw_rl [(42, bo v13)] (D := [36, 37, 38, 39, 40, 41, 42]) hnt rfl rfl (by
            rcases Bool.eq_false_or_eq_true (v11.Ok) with hb12 | hb12
            · replace hq := condT hb12 hq
              replace hq := Option.some.inj hq
              subst hq
              exact ⟨_, _, x_fp F72_1 (eP rfl) (k0 rfl) <| x_ld L4 (eP rfl) rfl (sX (bo v11.Ok) rfl) (k0 rfl) <| x_mv (eB rfl) (k0 rfl) <| x_fp F72_0 (eP rfl) (k1 rfl rfl rfl (congrArg bo hb12)) <| x_ld L9 (eP rfl) rfl (sX (tx v11.S) rfl) (k1 rfl rfl rfl (congrArg bo hb12)) <| x_ct (eT rfl) (eT rfl) rfl (k1 rfl rfl rfl (congrArg bo hb12)) <| x_pt rfl hb12 (eB rfl) (k0 rfl) <| lx_nil, ⟨rfl, trivial⟩⟩
            · replace hq := condF hb12 hq
              replace hq := Option.some.inj hq
              subst hq
              exact ⟨_, _, x_fp F72_1 (eP rfl) (k0 rfl) <| x_ld L4 (eP rfl) rfl (sX (bo v11.Ok) rfl) (k0 rfl) <| x_mv (eB rfl) (k0 rfl) <| lx_off rfl rfl (congrArg bo hb12) rfl <| lx_off rfl rfl (congrArg bo hb12) rfl <| lx_off rfl rfl (congrArg bo hb12) rfl <| x_pf rfl hb12 (eB rfl) (k0 rfl) <| lx_nil, ⟨rfl, trivial⟩⟩) ?_
          refine cw_cond rfl (fun hb14 => ?_) (fun hb14 => ?_)
          · replace h := condT hb14 h
            refine cw_seq (cw_rg hnt rfl (x_ld L72 (eP rfl) rfl (sX (.agg [tx v11.S, bo v11.Ok]) rfl) (k0 rfl) <| x_st L72 (eP rfl) rfl rfl rfl rfl (k0 rfl) <| lx_nil) (cw_ret (cw_rb (cw_rc (cw_rn ?_)))))
            cases h
            exact ⟨rfl, sub0⟩
          · replace h := condF hb14 h
            refine cw_skip (cw_blk (cw_seq (cw_rg hnt rfl (x_bd B72 (sX3 ([tx [], bo false]) rfl) (k0 rfl) <| x_st L72 (eP rfl) rfl rfl rfl rfl (k0 rfl) <| lx_nil) (cw_ret (cw_rn ?_)))))
            cases h
            exact ⟨rfl, sub0⟩
        · replace h := condF hb10 h
          refine cw_seq (cw_rg hnt rfl (x_ci (eX (.val (.int .i64 v4)) rfl) (eX (.val (.int .i64 4)) rfl) rfl (k0 rfl) <| x_as (eB rfl) (k0 rfl) <| lx_nil) ?_)
          refine cw_cond rfl (fun hb15 => ?_) (fun hb15 => ?_)
          · replace h := condT hb15 h
            refine cw_seq (cw_rg hnt rfl (x_mv (eT rfl) (k0 rfl) <| x_bd B72 (sX3 ([tx p1, bo true]) rfl) (k0 rfl) <| x_st L72 (eP rfl) rfl rfl rfl rfl (k0 rfl) <| lx_nil) (cw_ret (cw_rb (cw_rc (cw_rn ?_)))))
            cases h
            exact ⟨rfl, sub0⟩
          · replace h := condF hb15 h
            refine cw_skip (cw_blk (cw_seq (cw_rg hnt rfl (x_bd B72 (sX3 ([tx [], bo false]) rfl) (k0 rfl) <| x_st L72 (eP rfl) rfl rfl rfl rfl (k0 rfl) <| lx_nil) (cw_ret (cw_rn ?_)))))
            cases h
            exact ⟨rfl, sub0⟩

theorem c_r1_SameVal (p0 : Str) (p1 : Str) (p2 : Str) (r : Bool) (h : s_r1_SameVal p0 p1 p2 = some r) : Pu Tryz.prog 67 [tx p0, tx p1, tx p2] (bo r) := by
  refine ⟨(nfc nfv (nfc nfv (nfc nfv nfn))), nfv, fs_start _ _ Tryz.func67 rfl Tryz.ntmps67 Tryz.results67 rfl fun X hnt hn => ?_⟩
  rw [s_r1_SameVal] at h
  refine cw_seq (cw_rg hnt rfl (x_as (eB rfl) (k0 rfl) <| lx_nil) (cw_seq ?_))
  obtain ⟨v1, hv1, h⟩ := bindE h
  obtain ⟨v2, hv2, h⟩ := bindE h
  refine cw_rg hnt rfl (x_mv (eT rfl) (k0 rfl) <| x_mv (eT rfl) (k0 rfl) <| x_pu (eF rfl) P66 (c_r1_Norm p0 p1 v1 hv1) rfl (k0 rfl) <| x_mv (eT rfl) (k0 rfl) <| x_mv (eT rfl) (k0 rfl) <| x_pu (eF rfl) P66 (c_r1_Norm p0 p2 v2 hv2) rfl (k0 rfl) <| x_al Z72 (k0 rfl) <| x_al Z72 (k0 rfl) <| x_st L72 (eP rfl) rfl rfl rfl rfl (k0 rfl) <| x_st L72 (eP rfl) rfl rfl rfl rfl (k0 rfl) <| lx_nil) (cw_seq ?_)
  obtain ⟨v5, hq, h⟩ := bindE h
  refine cw_rl [(6, bo v5)] (D := [15, 16, 17, 18, 19, 20, 21, 22, 23, 24, 25, 26, 27, 6]) hnt rfl rfl (by
    rcases Bool.eq_false_or_eq_true (v1.Ok) with hb3 | hb3
    · replace hq := condT hb3 hq
      rcases Bool.eq_false_or_eq_true (v2.Ok) with hb4 | hb4
      · replace hq := condT hb4 hq
        replace hq := Option.some.inj hq
        subst hq
        exact ⟨_, _, x_fp F72_1 (eP rfl) (k0 rfl) <| x_ld L4 (eP rfl) rfl (sX (bo v1.Ok) rfl) (k0 rfl) <| x_mv (eB rfl) (k0 rfl) <| x_fp F72_1 (eP rfl) (k1 rfl rfl rfl (congrArg bo hb3)) <| x_ld L4 (eP rfl) rfl (sX (bo v2.Ok) rfl) (k1 rfl rfl rfl (congrArg bo hb3)) <| x_pt rfl hb3 (eB rfl) (k0 rfl) <| x_mv (eB rfl) (k0 rfl) <| x_fp F72_0 (eP rfl) (k1 rfl rfl rfl (congrArg bo hb4)) <| x_ld L9 (eP rfl) rfl (sX (tx v1.S) rfl) (k1 rfl rfl rfl (congrArg bo hb4)) <| x_fp F72_0 (eP rfl) (k1 rfl rfl rfl (congrArg bo hb4)) <| x_ld L9 (eP rfl) rfl (sX (tx v2.S) rfl) (k1 rfl rfl rfl (congrArg bo hb4)) <| x_ct (eT rfl) (eT rfl) rfl (k1 rfl rfl rfl (congrArg bo hb4)) <| x_pt rfl hb4 (eB rfl) (k0 rfl) <| x_as (eB rfl) (k0 rfl) <| lx_nil, ⟨rfl, trivial⟩⟩
      · replace hq := condF hb4 hq
        replace hq := Option.some.inj hq
        subst hq
        exact ⟨_, _, x_fp F72_1 (eP rfl) (k0 rfl) <| x_ld L4 (eP rfl) rfl (sX (bo v1.Ok) rfl) (k0 rfl) <| x_mv (eB rfl) (k0 rfl) <| x_fp F72_1 (eP rfl) (k1 rfl rfl rfl (congrArg bo hb3)) <| x_ld L4 (eP rfl) rfl (sX (bo v2.Ok) rfl) (k1 rfl rfl rfl (congrArg bo hb3)) <| x_pt rfl hb3 (eB rfl) (k0 rfl) <| x_mv (eB rfl) (k0 rfl) <| lx_off rfl rfl (congrArg bo hb4) rfl <| lx_off rfl rfl (congrArg bo hb4) rfl <| lx_off rfl rfl (congrArg bo hb4) rfl <| lx_off rfl rfl (congrArg bo hb4) rfl <| lx_off rfl rfl (congrArg bo hb4) rfl <| x_pf rfl hb4 (eB rfl) (k0 rfl) <| x_as (eB rfl) (k0 rfl) <| lx_nil, ⟨rfl, trivial⟩⟩
    · replace hq := condF hb3 hq
      replace hq := Option.some.inj hq
      subst hq
      exact ⟨_, _, x_fp F72_1 (eP rfl) (k0 rfl) <| x_ld L4 (eP rfl) rfl (sX (bo v1.Ok) rfl) (k0 rfl) <| x_mv (eB rfl) (k0 rfl) <| lx_off rfl rfl (congrArg bo hb3) rfl <| lx_off rfl rfl (congrArg bo hb3) rfl <| x_pf rfl hb3 (eB rfl) (k0 rfl) <| x_mv (eB rfl) (k0 rfl) <| lx_off rfl rfl rfl rfl <| lx_off rfl rfl rfl rfl <| lx_off rfl rfl rfl rfl <| lx_off rfl rfl rfl rfl <| lx_off rfl rfl rfl rfl <| x_pf rfl rfl (eB rfl) (k0 rfl) <| x_as (eB rfl) (k0 rfl) <| lx_nil, ⟨rfl, trivial⟩⟩) ?_
  refine cw_ret (cw_rn ?_)
  cases h
  exact ⟨rfl, sub0⟩

theorem c_r1_attrs (p0 : T_Entry) (r : Int) (h : s_r1_attrs p0 = some r) : Pu Tryz.prog 38 [.agg (enc p0)] (i64 r) := by
  refine ⟨(nfc nfe nfn), nfv, fs_start _ _ Tryz.func38 rfl Tryz.ntmps38 Tryz.results38 rfl fun X hnt hn => ?_⟩
  rw [s_r1_attrs] at h
  refine cw_seq (cw_rg hnt rfl (x_bx rfl (k0 rfl) <| x_as (eI rfl) (k0 rfl) <| lx_nil) (cw_seq (cw_seq (cw_rg hnt rfl (x_as (eI rfl) (k0 rfl) <| lx_nil) ?_))))
  refine cw_cut (fun st => r1_attrs_k1 = some r ∧ st = ⟨ls [], hl [], 8⟩) ?_ ?_
  · skip
    refine cw_block (cw_to (to_ren (N := 0) (n' := 3) (L := [(1, .ptr 0 0 0), (3, i64 0)]) (H := [(0, ⟨[[tx p0.Dn, ar p0.Attrs]], 2⟩)]) (id) [0] [] hn rfl rfl rfl fix0 (by decide) ⟨(Tr.ptr rfl), trv, trivial⟩ ⟨.inr ⟨rfl, _, rfl, TrO.cell (.cons trv (.cons tra .nil)) rfl⟩, trivial⟩) ?_)
    refine cw_loop (fun g st => ∃ (v4114 : Int), r1_attrs_l1 p0 g v4114 = some r ∧ st = ⟨ls [(1, .ptr 0 0 0), (3, i64 v4114)], hl [(0, ⟨[[tx p0.Dn, ar p0.Attrs]], 2⟩)], 3⟩) FUEL ⟨0, h, rfl⟩ ?_
    rintro g _ ⟨v4114, h, rfl⟩
    rcases g with _ | g1
    · rw [r1_attrs_l1] at h; cases h
    rw [r1_attrs_l1] at h
    refine cw_seq (cw_seq (cw_rg hnt rfl (x_mv (eI rfl) (k0 rfl) <| x_fp F24_1 (eP rfl) (k0 rfl) <| x_ld L22 (eP rfl) rfl (sX (ar p0.Attrs) rfl) (k0 rfl) <| x_lnA E22 (eX (ar p0.Attrs) rfl) (k0 rfl) <| x_ci (eX (.val (.int .i64 v4114)) rfl) (eX (.val (.int .i64 (p0.Attrs.length : Int))) rfl) rfl (k0 rfl) <| lx_nil) ?_))
    refine cw_cond rfl (fun hb5143 => ?_) (fun hb5143 => ?_)
    · replace h := condT hb5143 h
      refine cw_skip (cw_seq ?_)
      refine cw_cut (fun st => r1_attrs_k2 v4114 (r1_attrs_l1 p0 g1) = some r ∧ st = ⟨ls [(1, .ptr 0 0 0), (3, i64 v4114)], hl [(0, ⟨[[tx p0.Dn, ar p0.Attrs]], 2⟩)], 62⟩) ?_ ?_
      · skip
        refine cw_block (cw_seq ?_)
        obtain ⟨v5658, hv5658, h⟩ := bindE h
        refine cw_rg hnt rfl (x_fp F24_1 (eP rfl) (k0 rfl) <| x_ld L22 (eP rfl) rfl (sX (ar p0.Attrs) rfl) (k0 rfl) <| x_mv (eI rfl) (k0 rfl) <| x_ia E22 rfl (eX (ar p0.Attrs) rfl) rfl hv5658 (k0 rfl) <| x_ld L42 (eQ rfl) rfl (sX (.agg [tx v5658.Typ, ar v5658.Vals]) rfl) (k0 rfl) <| x_al Z42 (k0 rfl) <| x_st L42 (eP rfl) rfl rfl rfl rfl (k0 rfl) <| lx_nil) (cw_seq (cw_block (cw_seq ?_)))
        obtain ⟨v5659, hv5659, h⟩ := bindE h
        refine cw_rg hnt rfl (x_fp F42_0 (eP rfl) (k0 rfl) <| x_ld L9 (eP rfl) rfl (sX (tx v5658.Typ) rfl) (k0 rfl) <| x_pu (eF rfl) P64 (c_r1_Rule v5658.Typ v5659 hv5659) rfl (k0 rfl) <| x_ci (eX (.val (.int .i64 v5659)) rfl) (eX (.val (.int .i64 0)) rfl) rfl (k0 rfl) <| x_as (eB rfl) (k0 rfl) <| lx_nil) ?_
        refine cw_cond rfl (fun hb5660 => ?_) (fun hb5660 => ?_)
        · replace h := condT hb5660 h
          refine cw_seq (cw_rg hnt rfl (x_as (eI rfl) (k0 rfl) <| lx_nil) (cw_ret (cw_rb (cw_rc (cw_rb (cw_rt (cw_rc (cw_rt (cw_rb (cw_rt (cw_rc (cw_rn ?_))))))))))))
          cases h
          exact ⟨rfl, sub0⟩
        · replace h := condF hb5660 h
          refine cw_seq ?_
          obtain ⟨v5661, hv5661, h⟩ := bindE h
          refine cw_rg hnt rfl (x_ld L24 (eP rfl) rfl (sX (.agg [tx p0.Dn, ar p0.Attrs]) rfl) (k0 rfl) <| x_fp F42_0 (eP rfl) (k0 rfl) <| x_ld L9 (eP rfl) rfl (sX (tx v5658.Typ) rfl) (k0 rfl) <| x_pu (eF rfl) P65 (c_r1_attr p0 v5658.Typ v5661 hv5661) rfl (k0 rfl) <| x_mv (eI rfl) (k0 rfl) <| x_ci (eX (.val (.int .i64 v5661)) rfl) (eX (.val (.int .i64 v4114)) rfl) rfl (k0 rfl) <| x_as (eB rfl) (k0 rfl) <| lx_nil) ?_
          refine cw_cond rfl (fun hb5662 => ?_) (fun hb5662 => ?_)
          · replace h := condT hb5662 h
            refine cw_seq (cw_rg hnt rfl (x_as (eI rfl) (k0 rfl) <| lx_nil) (cw_ret (cw_rb (cw_rc (cw_rb (cw_rt (cw_rc (cw_rt (cw_rb (cw_rt (cw_rc (cw_rn ?_))))))))))))
            cases h
            exact ⟨rfl, sub0⟩
          · replace h := condF hb5662 h
            refine cw_seq ?_
            obtain ⟨v5667, hq, h⟩ := bindE h
            refine cw_rl [(32, bo v5667)] (D := [33, 34, 35, 36, 37, 38, 39, 40, 41, 42, 43, 44, 45, 46, 47, 48, 49, 50, 51, 52, 53, 54, 32]) hnt rfl rfl (by
              rcases Bool.eq_false_or_eq_true (((v5658.Vals.length : Int) == 0)) with hb5663 | hb5663
              · replace hq := condT hb5663 hq
                replace hq := Option.some.inj hq
                subst hq
                exact ⟨_, _, x_fp F42_1 (eP rfl) (k0 rfl) <| x_ld L27 (eP rfl) rfl (sX (ar v5658.Vals) rfl) (k0 rfl) <| x_lnA E27 (eX (ar v5658.Vals) rfl) (k0 rfl) <| x_ci (eX (.val (.int .i64 (v5658.Vals.length : Int))) rfl) (eX (.val (.int .i64 0)) rfl) rfl (k0 rfl) <| x_mv (eB rfl) (k0 rfl) <| lx_off rfl rfl (congrArg bo hb5663) rfl <| lx_off rfl rfl (congrArg bo hb5663) rfl <| lx_off rfl rfl (congrArg bo hb5663) rfl <| lx_off rfl rfl (congrArg bo hb5663) rfl <| x_pt rfl hb5663 (eB rfl) (k0 rfl) <| x_mv (eB rfl) (k0 rfl) <| lx_off rfl rfl rfl rfl <| lx_off rfl rfl rfl rfl <| lx_off rfl rfl rfl rfl <| lx_off rfl rfl rfl rfl <| lx_off rfl rfl rfl rfl <| lx_dead rfl rfl rfl rfl <| lx_dead rfl rfl rfl rfl <| lx_dead rfl rfl rfl rfl <| lx_dead rfl rfl rfl rfl <| lx_off rfl rfl rfl rfl <| x_pt rfl rfl (eB rfl) (k0 rfl) <| x_as (eB rfl) (k0 rfl) <| lx_nil, ⟨rfl, trivial⟩⟩
              · replace hq := condF hb5663 hq
                rcases Bool.eq_false_or_eq_true ((decide ((v5658.Vals.length : Int) > 40))) with hb5664 | hb5664
                · replace hq := condT hb5664 hq
                  replace hq := Option.some.inj hq
                  subst hq
                  exact ⟨_, _, x_fp F42_1 (eP rfl) (k0 rfl) <| x_ld L27 (eP rfl) rfl (sX (ar v5658.Vals) rfl) (k0 rfl) <| x_lnA E27 (eX (ar v5658.Vals) rfl) (k0 rfl) <| x_ci (eX (.val (.int .i64 (v5658.Vals.length : Int))) rfl) (eX (.val (.int .i64 0)) rfl) rfl (k0 rfl) <| x_mv (eB rfl) (k0 rfl) <| x_fp F42_1 (eP rfl) (k1 rfl rfl rfl (congrArg bo hb5663)) <| x_ld L27 (eP rfl) rfl (sX (ar v5658.Vals) rfl) (k1 rfl rfl rfl (congrArg bo hb5663)) <| x_lnA E27 (eX (ar v5658.Vals) rfl) (k1 rfl rfl rfl (congrArg bo hb5663)) <| x_ci (eX (.val (.int .i64 (v5658.Vals.length : Int))) rfl) (eX (.val (.int .i64 40)) rfl) rfl (k1 rfl rfl rfl (congrArg bo hb5663)) <| x_pf rfl hb5663 (eB rfl) (k0 rfl) <| x_mv (eB rfl) (k0 rfl) <| lx_off rfl rfl (congrArg bo hb5664) rfl <| lx_off rfl rfl (congrArg bo hb5664) rfl <| lx_off rfl rfl (congrArg bo hb5664) rfl <| lx_off rfl rfl (congrArg bo hb5664) rfl <| lx_off rfl rfl (congrArg bo hb5664) rfl <| lx_dead rfl rfl rfl rfl <| lx_dead rfl rfl rfl rfl <| lx_dead rfl rfl rfl rfl <| lx_dead rfl rfl rfl rfl <| lx_off rfl rfl (congrArg bo hb5664) rfl <| x_pt rfl hb5664 (eB rfl) (k0 rfl) <| x_as (eB rfl) (k0 rfl) <| lx_nil, ⟨rfl, trivial⟩⟩
                · replace hq := condF hb5664 hq
                  obtain ⟨v5665, hv5665, hq⟩ := bindE hq
                  rcases Bool.eq_false_or_eq_true ((v5665 == 2)) with hb5666 | hb5666
                  · replace hq := condT hb5666 hq
                    replace hq := Option.some.inj hq
                    subst hq
                    exact ⟨_, _, x_fp F42_1 (eP rfl) (k0 rfl) <| x_ld L27 (eP rfl) rfl (sX (ar v5658.Vals) rfl) (k0 rfl) <| x_lnA E27 (eX (ar v5658.Vals) rfl) (k0 rfl) <| x_ci (eX (.val (.int .i64 (v5658.Vals.length : Int))) rfl) (eX (.val (.int .i64 0)) rfl) rfl (k0 rfl) <| x_mv (eB rfl) (k0 rfl) <| x_fp F42_1 (eP rfl) (k1 rfl rfl rfl (congrArg bo hb5663)) <| x_ld L27 (eP rfl) rfl (sX (ar v5658.Vals) rfl) (k1 rfl rfl rfl (congrArg bo hb5663)) <| x_lnA E27 (eX (ar v5658.Vals) rfl) (k1 rfl rfl rfl (congrArg bo hb5663)) <| x_ci (eX (.val (.int .i64 (v5658.Vals.length : Int))) rfl) (eX (.val (.int .i64 40)) rfl) rfl (k1 rfl rfl rfl (congrArg bo hb5663)) <| x_pf rfl hb5663 (eB rfl) (k0 rfl) <| x_mv (eB rfl) (k0 rfl) <| x_fp F42_0 (eP rfl) (k1 rfl rfl rfl (congrArg bo hb5664)) <| x_ld L9 (eP rfl) rfl (sX (tx v5658.Typ) rfl) (k1 rfl rfl rfl (congrArg bo hb5664)) <| x_pu (eF rfl) P64 (c_r1_Rule v5658.Typ v5665 hv5665) rfl (k1 rfl rfl rfl (congrArg bo hb5664)) <| x_ci (eX (.val (.int .i64 v5665)) rfl) (eX (.val (.int .i64 2)) rfl) rfl (k1 rfl rfl rfl (congrArg bo hb5664)) <| x_mv (eB rfl) (k1 rfl rfl rfl (congrArg bo hb5664)) <| x_fp F42_1 (eP rfl) (k1 rfl rfl rfl (congrArg bo hb5666)) <| x_ld L27 (eP rfl) rfl (sX (ar v5658.Vals) rfl) (k1 rfl rfl rfl (congrArg bo hb5666)) <| x_lnA E27 (eX (ar v5658.Vals) rfl) (k1 rfl rfl rfl (congrArg bo hb5666)) <| x_ci (eX (.val (.int .i64 (v5658.Vals.length : Int))) rfl) (eX (.val (.int .i64 1)) rfl) rfl (k1 rfl rfl rfl (congrArg bo hb5666)) <| x_pt rfl hb5666 (eB rfl) (k1 rfl rfl rfl (congrArg bo hb5664)) <| x_pf rfl hb5664 (eB rfl) (k0 rfl) <| x_as (eB rfl) (k0 rfl) <| lx_nil, ⟨rfl, trivial⟩⟩
                  · replace hq := condF hb5666 hq
                    replace hq := Option.some.inj hq
                    subst hq
                    exact ⟨_, _, x_fp F42_1 (eP rfl) (k0 rfl) <| x_ld L27 (eP rfl) rfl (sX (ar v5658.Vals) rfl) (k0 rfl) <| x_lnA E27 (eX (ar v5658.Vals) rfl) (k0 rfl) <| x_ci (eX (.val (.int .i64 (v5658.Vals.length : Int))) rfl) (eX (.val (.int .i64 0)) rfl) rfl (k0 rfl) <| x_mv (eB rfl) (k0 rfl) <| x_fp F42_1 (eP rfl) (k1 rfl rfl rfl (congrArg bo hb5663)) <| x_ld L27 (eP rfl) rfl (sX (ar v5658.Vals) rfl) (k1 rfl rfl rfl (congrArg bo hb5663)) <| x_lnA E27 (eX (ar v5658.Vals) rfl) (k1 rfl rfl rfl (congrArg bo hb5663)) <| x_ci (eX (.val (.int .i64 (v5658.Vals.length : Int))) rfl) (eX (.val (.int .i64 40)) rfl) rfl (k1 rfl rfl rfl (congrArg bo hb5663)) <| x_pf rfl hb5663 (eB rfl) (k0 rfl) <| x_mv (eB rfl) (k0 rfl) <| x_fp F42_0 (eP rfl) (k1 rfl rfl rfl (congrArg bo hb5664)) <| x_ld L9 (eP rfl) rfl (sX (tx v5658.Typ) rfl) (k1 rfl rfl rfl (congrArg bo hb5664)) <| x_pu (eF rfl) P64 (c_r1_Rule v5658.Typ v5665 hv5665) rfl (k1 rfl rfl rfl (congrArg bo hb5664)) <| x_ci (eX (.val (.int .i64 v5665)) rfl) (eX (.val (.int .i64 2)) rfl) rfl (k1 rfl rfl rfl (congrArg bo hb5664)) <| x_mv (eB rfl) (k1 rfl rfl rfl (congrArg bo hb5664)) <| lx_off rfl rfl (congrArg bo hb5666) rfl <| lx_off rfl rfl (congrArg bo hb5666) rfl <| lx_off rfl rfl (congrArg bo hb5666) rfl <| lx_off rfl rfl (congrArg bo hb5666) rfl <| x_pf rfl hb5666 (eB rfl) (k1 rfl rfl rfl (congrArg bo hb5664)) <| x_pf rfl hb5664 (eB rfl) (k0 rfl) <| x_as (eB rfl) (k0 rfl) <| lx_nil, ⟨rfl, trivial⟩⟩) ?_
            refine cw_cond rfl (fun hb5668 => ?_) (fun hb5668 => ?_)
            · replace h := condT hb5668 h
              refine cw_seq (cw_rg hnt rfl (x_as (eI rfl) (k0 rfl) <| lx_nil) (cw_ret (cw_rb (cw_rc (cw_rb (cw_rt (cw_rc (cw_rt (cw_rb (cw_rt (cw_rc (cw_rn ?_))))))))))))
              cases h
              exact ⟨rfl, sub0⟩
            · replace h := condF hb5668 h
              refine cw_skip (cw_blk (cw_seq (cw_seq (cw_rg hnt rfl (x_as (eI rfl) (k0 rfl) <| lx_nil) ?_))))
              refine cw_cut (fun st => r1_attrs_k3 v4114 (r1_attrs_l1 p0 g1) v5658 = some r ∧ st = ⟨ls [(1, .ptr 0 0 0), (3, i64 v4114), (4, .ptr 13 0 0)], hl [(0, ⟨[[tx p0.Dn, ar p0.Attrs]], 2⟩), (13, ⟨[[tx v5658.Typ, ar v5658.Vals]], 2⟩)], 56⟩) ?_ ?_
              · skip
                refine cw_block (cw_to (to_ren (N := 0) (n' := 51) (L := [(1, .ptr 0 0 0), (3, i64 v4114), (4, .ptr 13 0 0), (5, i64 0)]) (H := [(0, ⟨[[tx p0.Dn, ar p0.Attrs]], 2⟩), (13, ⟨[[tx v5658.Typ, ar v5658.Vals]], 2⟩)]) (id) [0, 13] [] hn rfl rfl rfl fix0 (by decide) ⟨(Tr.ptr rfl), trv, (Tr.ptr rfl), trv, trivial⟩ ⟨.inr ⟨rfl, _, rfl, TrO.cell (.cons trv (.cons tra .nil)) rfl⟩, .inr ⟨rfl, _, rfl, TrO.cell (.cons trv (.cons tra .nil)) rfl⟩, trivial⟩) ?_)
                refine cw_loop (fun g st => ∃ (v6160 : Int), r1_attrs_l4 v4114 (r1_attrs_l1 p0 g1) v5658 g v6160 = some r ∧ st = ⟨ls [(1, .ptr 0 0 0), (3, i64 v4114), (4, .ptr 13 0 0), (5, i64 v6160)], hl [(0, ⟨[[tx p0.Dn, ar p0.Attrs]], 2⟩), (13, ⟨[[tx v5658.Typ, ar v5658.Vals]], 2⟩)], 51⟩) FUEL ⟨0, h, rfl⟩ ?_
                rintro g _ ⟨v6160, h, rfl⟩
                rcases g with _ | g4
                · rw [r1_attrs_l4] at h; cases h
                rw [r1_attrs_l4] at h
                refine cw_seq (cw_seq (cw_rg hnt rfl (x_mv (eI rfl) (k0 rfl) <| x_fp F42_1 (eP rfl) (k0 rfl) <| x_ld L27 (eP rfl) rfl (sX (ar v5658.Vals) rfl) (k0 rfl) <| x_lnA E27 (eX (ar v5658.Vals) rfl) (k0 rfl) <| x_ci (eX (.val (.int .i64 v6160)) rfl) (eX (.val (.int .i64 (v5658.Vals.length : Int))) rfl) rfl (k0 rfl) <| lx_nil) ?_))
                refine cw_cond rfl (fun hb6166 => ?_) (fun hb6166 => ?_)
                · replace h := condT hb6166 h
                  refine cw_skip (cw_seq (cw_block (cw_seq ?_)))
                  obtain ⟨v6167, hv6167, h⟩ := bindE h
                  obtain ⟨v6168, hv6168, h⟩ := bindE h
                  refine cw_ra [] [] [] [7, 8, 9] hnt rfl Tryz.mixed (by kernel_rfl) rfl (by decide) (x_fp F42_0 (eP rfl) (k0 rfl) <| x_ld L9 (eP rfl) rfl (sX (tx v5658.Typ) rfl) (k0 rfl) <| x_fp F42_1 (eP rfl) (k0 rfl) <| x_ld L27 (eP rfl) rfl (sX (ar v5658.Vals) rfl) (k0 rfl) <| x_mv (eI rfl) (k0 rfl) <| x_ia E27 rfl (eX (ar v5658.Vals) rfl) rfl hv6167 (k0 rfl) <| x_ld L9 (eQ rfl) rfl (sX (tx v6167) rfl) (k0 rfl) <| x_pu (eF rfl) P66 (c_r1_Norm v5658.Typ v6167 v6168 hv6168) rfl (k0 rfl) <| x_fd f72_1 (eG rfl) (sX (bo v6168.Ok) rfl) (k0 rfl) <| x_not (eB rfl) (k0 rfl) <| lx_nil) ?_
                  refine cw_cond rfl (fun hb6169 => ?_) (fun hb6169 => ?_)
                  · replace h := condT hb6169 h
                    refine cw_seq (cw_rg hnt rfl (x_as (eI rfl) (k0 rfl) <| lx_nil) (cw_ret (cw_rb (cw_rc (cw_rt (cw_rb (cw_rt (cw_rc (cw_rb (cw_rt (cw_rc (cw_rt (cw_rb (cw_rt (cw_rc (cw_rn ?_))))))))))))))))
                    cases h
                    exact ⟨rfl, sub0⟩
                  · replace h := condF hb6169 h
                    refine cw_skip (cw_blk ?_)
                    obtain ⟨v6170, hv6170, h⟩ := bindE h
                    refine cw_rg hnt rfl (x_mv (eI rfl) (k0 rfl) <| x_ai (eI rfl) (eI rfl) hv6170 (k0 rfl) <| x_as (eI rfl) (k0 rfl) <| lx_nil) (cw_nil ?_)
                    exact ⟨g4, _, Nat.lt_succ_self _, (to_ren (N := 0) (n' := 51) (L := [(1, .ptr 0 0 0), (3, i64 v4114), (4, .ptr 13 0 0), (5, i64 v6170)]) (H := [(0, ⟨[[tx p0.Dn, ar p0.Attrs]], 2⟩), (13, ⟨[[tx v5658.Typ, ar v5658.Vals]], 2⟩)]) (id) [0, 13] [] hn rfl rfl rfl fix0 (by decide) ⟨(Tr.ptr rfl), trv, (Tr.ptr rfl), trv, trivial⟩ ⟨.inr ⟨rfl, _, rfl, TrO.cell (.cons trv (.cons tra .nil)) rfl⟩, .inr ⟨rfl, _, rfl, TrO.cell (.cons trv (.cons tra .nil)) rfl⟩, trivial⟩), v6170, h, rfl⟩
                · replace h := condF hb6166 h
                  refine cw_exit (cw_xc (cw_xt (cw_xb (cw_nil ?_))))
                  exact ⟨_, (to_ren (N := 0) (n' := 56) (L := [(1, .ptr 0 0 0), (3, i64 v4114), (4, .ptr 13 0 0)]) (H := [(0, ⟨[[tx p0.Dn, ar p0.Attrs]], 2⟩), (13, ⟨[[tx v5658.Typ, ar v5658.Vals]], 2⟩)]) (id) [0, 13] [] hn rfl rfl rfl fix0 (by decide) ⟨(Tr.ptr rfl), trv, (Tr.ptr rfl), trivial⟩ ⟨.inr ⟨rfl, _, rfl, TrO.cell (.cons trv (.cons tra .nil)) rfl⟩, .inr ⟨rfl, _, rfl, TrO.cell (.cons trv (.cons tra .nil)) rfl⟩, trivial⟩), h, rfl⟩
              · rintro _ ⟨h, rfl⟩
                rw [r1_attrs_k3] at h
                refine cw_seq (cw_rg hnt rfl (x_as (eI rfl) (k0 rfl) <| lx_nil) ?_)
                refine cw_cut (fun st => r1_attrs_k4 v4114 (r1_attrs_l1 p0 g1) = some r ∧ st = ⟨ls [(1, .ptr 0 0 0), (3, i64 v4114)], hl [(0, ⟨[[tx p0.Dn, ar p0.Attrs]], 2⟩)], 62⟩) ?_ ?_
                · skip
                  refine cw_block (cw_to (to_ren (N := 0) (n' := 57) (L := [(1, .ptr 0 0 0), (3, i64 v4114), (4, .ptr 13 0 0), (6, i64 0)]) (H := [(0, ⟨[[tx p0.Dn, ar p0.Attrs]], 2⟩), (13, ⟨[[tx v5658.Typ, ar v5658.Vals]], 2⟩)]) (id) [0, 13] [] hn rfl rfl rfl fix0 (by decide) ⟨(Tr.ptr rfl), trv, (Tr.ptr rfl), trv, trivial⟩ ⟨.inr ⟨rfl, _, rfl, TrO.cell (.cons trv (.cons tra .nil)) rfl⟩, .inr ⟨rfl, _, rfl, TrO.cell (.cons trv (.cons tra .nil)) rfl⟩, trivial⟩) ?_)
                  refine cw_loop (fun g st => ∃ (v5998 : Int), r1_attrs_l2 v4114 (r1_attrs_l1 p0 g1) v5658 g v5998 = some r ∧ st = ⟨ls [(1, .ptr 0 0 0), (3, i64 v4114), (4, .ptr 13 0 0), (6, i64 v5998)], hl [(0, ⟨[[tx p0.Dn, ar p0.Attrs]], 2⟩), (13, ⟨[[tx v5658.Typ, ar v5658.Vals]], 2⟩)], 57⟩) FUEL ⟨0, h, rfl⟩ ?_
                  rintro g _ ⟨v5998, h, rfl⟩
                  rcases g with _ | g2
                  · rw [r1_attrs_l2] at h; cases h
                  rw [r1_attrs_l2] at h
                  refine cw_seq (cw_seq (cw_rg hnt rfl (x_mv (eI rfl) (k0 rfl) <| x_fp F42_1 (eP rfl) (k0 rfl) <| x_ld L27 (eP rfl) rfl (sX (ar v5658.Vals) rfl) (k0 rfl) <| x_lnA E27 (eX (ar v5658.Vals) rfl) (k0 rfl) <| x_ci (eX (.val (.int .i64 v5998)) rfl) (eX (.val (.int .i64 (v5658.Vals.length : Int))) rfl) rfl (k0 rfl) <| lx_nil) ?_))
                  refine cw_cond rfl (fun hb6077 => ?_) (fun hb6077 => ?_)
                  · replace h := condT hb6077 h
                    refine cw_skip (cw_seq ?_)
                    refine cw_cut (fun st => r1_attrs_k5 v5998 (r1_attrs_l2 v4114 (r1_attrs_l1 p0 g1) v5658 g2) = some r ∧ st = ⟨ls [(1, .ptr 0 0 0), (3, i64 v4114), (4, .ptr 13 0 0), (6, i64 v5998)], hl [(0, ⟨[[tx p0.Dn, ar p0.Attrs]], 2⟩), (13, ⟨[[tx v5658.Typ, ar v5658.Vals]], 2⟩)], 66⟩) ?_ ?_
                    · skip
                      refine cw_block (cw_seq (cw_rg hnt rfl (x_as (eI rfl) (k0 rfl) <| lx_nil) ?_))
                      refine cw_cut (fun st => r1_attrs_k6 v5998 (r1_attrs_l2 v4114 (r1_attrs_l1 p0 g1) v5658 g2) = some r ∧ st = ⟨ls [(1, .ptr 0 0 0), (3, i64 v4114), (4, .ptr 13 0 0), (6, i64 v5998)], hl [(0, ⟨[[tx p0.Dn, ar p0.Attrs]], 2⟩), (13, ⟨[[tx v5658.Typ, ar v5658.Vals]], 2⟩)], 66⟩) ?_ ?_
                      · skip
                        refine cw_block (cw_to (to_ren (N := 0) (n' := 63) (L := [(1, .ptr 0 0 0), (3, i64 v4114), (4, .ptr 13 0 0), (6, i64 v5998), (7, i64 0)]) (H := [(0, ⟨[[tx p0.Dn, ar p0.Attrs]], 2⟩), (13, ⟨[[tx v5658.Typ, ar v5658.Vals]], 2⟩)]) (id) [0, 13] [] hn rfl rfl rfl fix0 (by decide) ⟨(Tr.ptr rfl), trv, (Tr.ptr rfl), trv, trv, trivial⟩ ⟨.inr ⟨rfl, _, rfl, TrO.cell (.cons trv (.cons tra .nil)) rfl⟩, .inr ⟨rfl, _, rfl, TrO.cell (.cons trv (.cons tra .nil)) rfl⟩, trivial⟩) ?_)
                        refine cw_loop (fun g st => ∃ (v6142 : Int), r1_attrs_l3 v5658 v5998 (r1_attrs_l2 v4114 (r1_attrs_l1 p0 g1) v5658 g2) g v6142 = some r ∧ st = ⟨ls [(1, .ptr 0 0 0), (3, i64 v4114), (4, .ptr 13 0 0), (6, i64 v5998), (7, i64 v6142)], hl [(0, ⟨[[tx p0.Dn, ar p0.Attrs]], 2⟩), (13, ⟨[[tx v5658.Typ, ar v5658.Vals]], 2⟩)], 63⟩) FUEL ⟨0, h, rfl⟩ ?_
                        rintro g _ ⟨v6142, h, rfl⟩
                        rcases g with _ | g3
                        · rw [r1_attrs_l3] at h; cases h
                        rw [r1_attrs_l3] at h
                        refine cw_seq (cw_seq (cw_rg hnt rfl (x_mv (eI rfl) (k0 rfl) <| x_mv (eI rfl) (k0 rfl) <| x_ci (eX (.val (.int .i64 v6142)) rfl) (eX (.val (.int .i64 v5998)) rfl) rfl (k0 rfl) <| lx_nil) ?_))
                        refine cw_cond rfl (fun hb6149 => ?_) (fun hb6149 => ?_)
                        · replace h := condT hb6149 h
                          refine cw_skip (cw_seq (cw_block (cw_seq ?_)))
                          obtain ⟨v6150, hv6150, h⟩ := bindE h
                          obtain ⟨v6151, hv6151, h⟩ := bindE h
                          obtain ⟨v6152, hv6152, h⟩ := bindE h
                          refine cw_ra [] [] [] [12] hnt rfl Tryz.mixed (by kernel_rfl) rfl (by decide) (x_fp F42_0 (eP rfl) (k0 rfl) <| x_ld L9 (eP rfl) rfl (sX (tx v5658.Typ) rfl) (k0 rfl) <| x_fp F42_1 (eP rfl) (k0 rfl) <| x_ld L27 (eP rfl) rfl (sX (ar v5658.Vals) rfl) (k0 rfl) <| x_mv (eI rfl) (k0 rfl) <| x_ia E27 rfl (eX (ar v5658.Vals) rfl) rfl hv6150 (k0 rfl) <| x_ld L9 (eQ rfl) rfl (sX (tx v6150) rfl) (k0 rfl) <| x_fp F42_1 (eP rfl) (k0 rfl) <| x_ld L27 (eP rfl) rfl (sX (ar v5658.Vals) rfl) (k0 rfl) <| x_mv (eI rfl) (k0 rfl) <| x_ia E27 rfl (eX (ar v5658.Vals) rfl) rfl hv6151 (k0 rfl) <| x_ld L9 (eQ rfl) rfl (sX (tx v6151) rfl) (k0 rfl) <| x_pu (eF rfl) P67 (c_r1_SameVal v5658.Typ v6150 v6151 v6152 hv6152) rfl (k0 rfl) <| lx_nil) ?_
                          refine cw_cond rfl (fun hb6153 => ?_) (fun hb6153 => ?_)
                          · replace h := condT hb6153 h
                            refine cw_seq (cw_rg hnt rfl (x_as (eI rfl) (k0 rfl) <| lx_nil) (cw_ret (cw_rb (cw_rc (cw_rt (cw_rb (cw_rt (cw_rb (cw_rt (cw_rc (cw_rt (cw_rb (cw_rt (cw_rb (cw_rt (cw_rc (cw_rt (cw_rb (cw_rt (cw_rc (cw_rn ?_)))))))))))))))))))))
                            cases h
                            exact ⟨rfl, sub0⟩
                          · replace h := condF hb6153 h
                            refine cw_skip (cw_blk ?_)
                            obtain ⟨v6154, hv6154, h⟩ := bindE h
                            refine cw_rg hnt rfl (x_mv (eI rfl) (k0 rfl) <| x_ai (eI rfl) (eI rfl) hv6154 (k0 rfl) <| x_as (eI rfl) (k0 rfl) <| lx_nil) (cw_nil ?_)
                            exact ⟨g3, _, Nat.lt_succ_self _, (to_ren (N := 0) (n' := 63) (L := [(1, .ptr 0 0 0), (3, i64 v4114), (4, .ptr 13 0 0), (6, i64 v5998), (7, i64 v6154)]) (H := [(0, ⟨[[tx p0.Dn, ar p0.Attrs]], 2⟩), (13, ⟨[[tx v5658.Typ, ar v5658.Vals]], 2⟩)]) (id) [0, 13] [] hn rfl rfl rfl fix0 (by decide) ⟨(Tr.ptr rfl), trv, (Tr.ptr rfl), trv, trv, trivial⟩ ⟨.inr ⟨rfl, _, rfl, TrO.cell (.cons trv (.cons tra .nil)) rfl⟩, .inr ⟨rfl, _, rfl, TrO.cell (.cons trv (.cons tra .nil)) rfl⟩, trivial⟩), v6154, h, rfl⟩
                        · replace h := condF hb6149 h
                          refine cw_exit (cw_xc (cw_xt (cw_xb (cw_nil ?_))))
                          exact ⟨_, (to_ren (N := 0) (n' := 66) (L := [(1, .ptr 0 0 0), (3, i64 v4114), (4, .ptr 13 0 0), (6, i64 v5998)]) (H := [(0, ⟨[[tx p0.Dn, ar p0.Attrs]], 2⟩), (13, ⟨[[tx v5658.Typ, ar v5658.Vals]], 2⟩)]) (id) [0, 13] [] hn rfl rfl rfl fix0 (by decide) ⟨(Tr.ptr rfl), trv, (Tr.ptr rfl), trv, trivial⟩ ⟨.inr ⟨rfl, _, rfl, TrO.cell (.cons trv (.cons tra .nil)) rfl⟩, .inr ⟨rfl, _, rfl, TrO.cell (.cons trv (.cons tra .nil)) rfl⟩, trivial⟩), h, rfl⟩
                      · rintro _ ⟨h, rfl⟩
                        rw [r1_attrs_k6] at h
                        refine cw_blk (cw_nil ?_)
                        exact ⟨_, (to_ren (N := 0) (n' := 66) (L := [(1, .ptr 0 0 0), (3, i64 v4114), (4, .ptr 13 0 0), (6, i64 v5998)]) (H := [(0, ⟨[[tx p0.Dn, ar p0.Attrs]], 2⟩), (13, ⟨[[tx v5658.Typ, ar v5658.Vals]], 2⟩)]) (id) [0, 13] [] hn rfl rfl rfl fix0 (by decide) ⟨(Tr.ptr rfl), trv, (Tr.ptr rfl), trv, trivial⟩ ⟨.inr ⟨rfl, _, rfl, TrO.cell (.cons trv (.cons tra .nil)) rfl⟩, .inr ⟨rfl, _, rfl, TrO.cell (.cons trv (.cons tra .nil)) rfl⟩, trivial⟩), h, rfl⟩
                    · rintro _ ⟨h, rfl⟩
                      rw [r1_attrs_k5] at h
                      obtain ⟨v6116, hv6116, h⟩ := bindE h
                      refine cw_rg hnt rfl (x_mv (eI rfl) (k0 rfl) <| x_ai (eI rfl) (eI rfl) hv6116 (k0 rfl) <| x_as (eI rfl) (k0 rfl) <| lx_nil) (cw_nil ?_)
                      exact ⟨g2, _, Nat.lt_succ_self _, (to_ren (N := 0) (n' := 57) (L := [(1, .ptr 0 0 0), (3, i64 v4114), (4, .ptr 13 0 0), (6, i64 v6116)]) (H := [(0, ⟨[[tx p0.Dn, ar p0.Attrs]], 2⟩), (13, ⟨[[tx v5658.Typ, ar v5658.Vals]], 2⟩)]) (id) [0, 13] [] hn rfl rfl rfl fix0 (by decide) ⟨(Tr.ptr rfl), trv, (Tr.ptr rfl), trv, trivial⟩ ⟨.inr ⟨rfl, _, rfl, TrO.cell (.cons trv (.cons tra .nil)) rfl⟩, .inr ⟨rfl, _, rfl, TrO.cell (.cons trv (.cons tra .nil)) rfl⟩, trivial⟩), v6116, h, rfl⟩
                  · replace h := condF hb6077 h
                    refine cw_exit (cw_xc (cw_xt (cw_xb (cw_nil ?_))))
                    exact ⟨_, (to_ren (N := 0) (n' := 62) (L := [(1, .ptr 0 0 0), (3, i64 v4114)]) (H := [(0, ⟨[[tx p0.Dn, ar p0.Attrs]], 2⟩)]) (id) [0] [] hn rfl rfl rfl fix0 (by decide) ⟨(Tr.ptr rfl), trv, trivial⟩ ⟨.inr ⟨rfl, _, rfl, TrO.cell (.cons trv (.cons tra .nil)) rfl⟩, trivial⟩), h, rfl⟩
                · rintro _ ⟨h, rfl⟩
                  rw [r1_attrs_k4] at h
                  refine cw_blk (cw_nil ?_)
                  exact ⟨_, (to_ren (N := 0) (n' := 62) (L := [(1, .ptr 0 0 0), (3, i64 v4114)]) (H := [(0, ⟨[[tx p0.Dn, ar p0.Attrs]], 2⟩)]) (id) [0] [] hn rfl rfl rfl fix0 (by decide) ⟨(Tr.ptr rfl), trv, trivial⟩ ⟨.inr ⟨rfl, _, rfl, TrO.cell (.cons trv (.cons tra .nil)) rfl⟩, trivial⟩), h, rfl⟩
      · rintro _ ⟨h, rfl⟩
        rw [r1_attrs_k2] at h
        obtain ⟨v5657, hv5657, h⟩ := bindE h
        refine cw_rg hnt rfl (x_mv (eI rfl) (k0 rfl) <| x_ai (eI rfl) (eI rfl) hv5657 (k0 rfl) <| x_as (eI rfl) (k0 rfl) <| lx_nil) (cw_nil ?_)
        exact ⟨g1, _, Nat.lt_succ_self _, (to_ren (N := 0) (n' := 3) (L := [(1, .ptr 0 0 0), (3, i64 v5657)]) (H := [(0, ⟨[[tx p0.Dn, ar p0.Attrs]], 2⟩)]) (id) [0] [] hn rfl rfl rfl fix0 (by decide) ⟨(Tr.ptr rfl), trv, trivial⟩ ⟨.inr ⟨rfl, _, rfl, TrO.cell (.cons trv (.cons tra .nil)) rfl⟩, trivial⟩), v5657, h, rfl⟩
    · replace h := condF hb5143 h
      refine cw_exit (cw_xc (cw_xt (cw_xb (cw_nil ?_))))
      exact ⟨_, (to_ren (N := 0) (n' := 8) (L := []) (H := []) (id) [] [] hn rfl rfl rfl fix0 .nil trivial trivial), h, rfl⟩
  · rintro _ ⟨h, rfl⟩
    rw [r1_attrs_k1] at h
    refine cw_seq (cw_rg hnt rfl (x_as (eI rfl) (k0 rfl) <| lx_nil) (cw_ret (cw_rn ?_)))
    cases h
    exact ⟨rfl, sub0⟩

theorem c_r1_Vals (p0 : T_Entry) (p1 : Str) (r : List Str) (h : s_r1_Vals p0 p1 = some r) : Pu Tryz.prog 68 [.agg (enc p0), tx p1] (ar r) := by
  refine ⟨(nfc nfe (nfc nfv nfn)), nfa, fs_start _ _ Tryz.func68 rfl Tryz.ntmps68 Tryz.results68 rfl fun X hnt hn => ?_⟩
  rw [s_r1_Vals] at h
  refine cw_seq (cw_rg hnt rfl (x_bx rfl (k0 rfl) <| x_as (eV rfl) (k0 rfl) <| lx_nil) (cw_seq ?_))
  obtain ⟨v1, hv1, h⟩ := bindE h
  refine cw_rg hnt rfl (x_ld L24 (eP rfl) rfl (sX (.agg [tx p0.Dn, ar p0.Attrs]) rfl) (k0 rfl) <| x_mv (eT rfl) (k0 rfl) <| x_pu (eF rfl) P65 (c_r1_attr p0 p1 v1 hv1) rfl (k0 rfl) <| x_as (eI rfl) (k0 rfl) <| lx_nil) (cw_seq (cw_seq (cw_rg hnt rfl (x_mv (eI rfl) (k0 rfl) <| x_ci (eX (.val (.int .i64 v1)) rfl) (eX (.val (.int .i64 0)) rfl) rfl (k0 rfl) <| lx_nil) ?_)))
  refine cw_cond rfl (fun hb2 => ?_) (fun hb2 => ?_)
  · replace h := condT hb2 h
    refine cw_seq (cw_rg hnt rfl (x_as (eV rfl) (k0 rfl) <| lx_nil) (cw_to (to_ren (N := 0) (n' := 9) (L := [(4, ar ([] : List Str))]) (H := []) (id) [] [] hn rfl rfl rfl fix0 .nil ⟨Tr.nilArr, trivial⟩ trivial) (cw_ret (cw_rc (cw_rn ?_)))))
    cases h
    exact ⟨rfl, sub0⟩
  · replace h := condF hb2 h
    refine cw_skip (cw_seq ?_)
    obtain ⟨v3, hv3, h⟩ := bindE h
    refine cw_rg hnt rfl (x_fp F24_1 (eP rfl) (k0 rfl) <| x_ld L22 (eP rfl) rfl (sX (ar p0.Attrs) rfl) (k0 rfl) <| x_mv (eI rfl) (k0 rfl) <| x_ia E22 rfl (eX (ar p0.Attrs) rfl) rfl hv3 (k0 rfl) <| x_fq F42_1 (eQ rfl) (k0 rfl) <| x_ld L27 (eQ rfl) rfl (sX (ar v3.Vals) rfl) (k0 rfl) <| x_as (eA rfl) (k0 rfl) <| lx_nil) (cw_ret (cw_rn ?_))
    cases h
    exact ⟨rfl, sub0⟩

theorem c_r1_Among (p0 : List Str) (p1 : Str) (r : Bool) (h : s_r1_Among p0 p1 = some r) : Pu Tryz.prog 69 [ar p0, tx p1] (bo r) := by
  refine ⟨(nfc nfa (nfc nfv nfn)), nfv, fs_start _ _ Tryz.func69 rfl Tryz.ntmps69 Tryz.results69 rfl fun X hnt hn => ?_⟩
  rw [s_r1_Among] at h
  refine cw_seq (cw_rg hnt rfl (x_as (eB rfl) (k0 rfl) <| lx_nil) (cw_seq (cw_seq (cw_rg hnt rfl (x_as (eI rfl) (k0 rfl) <| lx_nil) ?_))))
  refine cw_cut (fun st => r1_Among_k1 = some r ∧ st = ⟨ls [], hl [], 6⟩) ?_ ?_
  · skip
    refine cw_block (cw_to (to_ren (N := 0) (n' := 2) (L := [(0, ar p0), (1, tx p1), (5, i64 0)]) (H := []) (id) [] [] hn rfl rfl rfl fix0 .nil ⟨tra, trv, trv, trivial⟩ trivial) ?_)
    refine cw_loop (fun g st => ∃ (v18 : Int), r1_Among_l1 p0 p1 g v18 = some r ∧ st = ⟨ls [(0, ar p0), (1, tx p1), (5, i64 v18)], hl [], 2⟩) FUEL ⟨0, h, rfl⟩ ?_
    rintro g _ ⟨v18, h, rfl⟩
    rcases g with _ | g1
    · rw [r1_Among_l1] at h; cases h
    rw [r1_Among_l1] at h
    refine cw_seq (cw_seq (cw_rg hnt rfl (x_mv (eI rfl) (k0 rfl) <| x_mv (eA rfl) (k0 rfl) <| x_lnA E27 (eX (ar p0) rfl) (k0 rfl) <| x_ci (eX (.val (.int .i64 v18)) rfl) (eX (.val (.int .i64 (p0.length : Int))) rfl) rfl (k0 rfl) <| lx_nil) ?_))
    refine cw_cond rfl (fun hb23 => ?_) (fun hb23 => ?_)
    · replace h := condT hb23 h
      refine cw_skip (cw_seq (cw_block (cw_seq ?_)))
      obtain ⟨v24, hv24, h⟩ := bindE h
      refine cw_rg hnt rfl (x_mv (eA rfl) (k0 rfl) <| x_mv (eI rfl) (k0 rfl) <| x_ia E27 rfl (eX (ar p0) rfl) rfl hv24 (k0 rfl) <| x_ld L9 (eQ rfl) rfl (sX (tx v24) rfl) (k0 rfl) <| x_mv (eT rfl) (k0 rfl) <| x_ct (eT rfl) (eT rfl) rfl (k0 rfl) <| lx_nil) ?_
      refine cw_cond rfl (fun hb25 => ?_) (fun hb25 => ?_)
      · replace h := condT hb25 h
        refine cw_seq (cw_rg hnt rfl (x_as (eB rfl) (k0 rfl) <| lx_nil) (cw_ret (cw_rb (cw_rc (cw_rt (cw_rb (cw_rt (cw_rc (cw_rn ?_)))))))))
        cases h
        exact ⟨rfl, sub0⟩
      · replace h := condF hb25 h
        refine cw_skip (cw_blk ?_)
        obtain ⟨v26, hv26, h⟩ := bindE h
        refine cw_rg hnt rfl (x_mv (eI rfl) (k0 rfl) <| x_ai (eI rfl) (eI rfl) hv26 (k0 rfl) <| x_as (eI rfl) (k0 rfl) <| lx_nil) (cw_nil ?_)
        exact ⟨g1, _, Nat.lt_succ_self _, (to_ren (N := 0) (n' := 2) (L := [(0, ar p0), (1, tx p1), (5, i64 v26)]) (H := []) (id) [] [] hn rfl rfl rfl fix0 .nil ⟨tra, trv, trv, trivial⟩ trivial), v26, h, rfl⟩
    · replace h := condF hb23 h
      refine cw_exit (cw_xc (cw_xt (cw_xb (cw_nil ?_))))
      exact ⟨_, (to_ren (N := 0) (n' := 6) (L := []) (H := []) (id) [] [] hn rfl rfl rfl fix0 .nil trivial trivial), h, rfl⟩
  · rintro _ ⟨h, rfl⟩
    rw [r1_Among_k1] at h
    refine cw_seq (cw_rg hnt rfl (x_as (eB rfl) (k0 rfl) <| lx_nil) (cw_ret (cw_rn ?_)))
    cases h
    exact ⟨rfl, sub0⟩

theorem c_r1_classes (p0 : T_Entry) (r : Bool) (h : s_r1_classes p0 = some r) : Pu Tryz.prog 39 [.agg (enc p0)] (bo r) := by
  refine ⟨(nfc nfe nfn), nfv, fs_start _ _ Tryz.func39 rfl Tryz.ntmps39 Tryz.results39 rfl fun X hnt hn => ?_⟩
  rw [s_r1_classes] at h
  refine cw_seq (cw_rg hnt rfl (x_bx rfl (k0 rfl) <| x_as (eB rfl) (k0 rfl) <| lx_nil) (cw_seq ?_))
  obtain ⟨v1, hv1, h⟩ := bindE h
  refine cw_rg hnt rfl (x_ld L24 (eP rfl) rfl (sX (.agg [tx p0.Dn, ar p0.Attrs]) rfl) (k0 rfl) <| x_pu (eF rfl) P68 (c_r1_Vals p0 k_objectclass v1 hv1) rfl (k0 rfl) <| x_as (eA rfl) (k0 rfl) <| lx_nil) (cw_seq (cw_rg hnt rfl (x_as (eV rfl) (k0 rfl) <| x_as (eV rfl) (k0 rfl) <| lx_nil) (cw_seq (cw_rg hnt rfl (x_as (eB rfl) (k0 rfl) <| lx_nil) (cw_seq (cw_seq (cw_rg hnt rfl (x_as (eI rfl) (k0 rfl) <| lx_nil) ?_)))))))
  refine cw_cut (fun st => ∃ (v309 : Bool) (v307 : List Str) (v308 : List Str), r1_classes_k1 p0 v309 v307 v308 = some r ∧ st = ⟨ls [(1, .ptr 0 0 0), (4, .own 9 0 v307.length), (5, .own 10 0 v308.length), (6, bo v309)], hl [(0, ⟨[[tx p0.Dn, ar p0.Attrs]], 2⟩), (9, ob (v307 : List Str)), (10, ob (v308 : List Str))], 15⟩) ?_ ?_
  · skip
    refine cw_block (cw_to (to_ren (N := 0) (n' := 11) (L := [(1, .ptr 0 0 0), (3, ar v1), (4, .own 9 0 0), (5, .own 10 0 0), (6, bo false), (7, i64 0)]) (H := [(0, ⟨[[tx p0.Dn, ar p0.Attrs]], 2⟩), (9, ob ([] : List Str)), (10, ob ([] : List Str))]) (id) [0] [9, 10] hn rfl rfl rfl fix0 (by decide) ⟨(Tr.ptr rfl), tra, (Tr.nilOwn rfl), (Tr.nilOwn rfl), trv, trv, trivial⟩ ⟨.inr ⟨rfl, _, rfl, TrO.cell (.cons trv (.cons tra .nil)) rfl⟩, .inl ⟨rfl, rfl⟩, .inl ⟨rfl, rfl⟩, trivial⟩) ?_)
    refine cw_loop (fun g st => ∃ (v499 : Bool) (v500 : Int) (v497 : List Str) (v498 : List Str), r1_classes_l3 p0 v1 g v499 v500 v497 v498 = some r ∧ st = ⟨ls [(1, .ptr 0 0 0), (3, ar v1), (4, .own 9 0 v497.length), (5, .own 10 0 v498.length), (6, bo v499), (7, i64 v500)], hl [(0, ⟨[[tx p0.Dn, ar p0.Attrs]], 2⟩), (9, ob (v497 : List Str)), (10, ob (v498 : List Str))], 11⟩) FUEL ⟨false, 0, [], [], h, rfl⟩ ?_
    rintro g _ ⟨v499, v500, v497, v498, h, rfl⟩
    rcases g with _ | g3
    · rw [r1_classes_l3] at h; cases h
    rw [r1_classes_l3] at h
    refine cw_seq (cw_seq (cw_rg hnt rfl (x_mv (eI rfl) (k0 rfl) <| x_mv (eA rfl) (k0 rfl) <| x_lnA E27 (eX (ar v1) rfl) (k0 rfl) <| x_ci (eX (.val (.int .i64 v500)) rfl) (eX (.val (.int .i64 (v1.length : Int))) rfl) rfl (k0 rfl) <| lx_nil) ?_))
    refine cw_cond rfl (fun hb602 => ?_) (fun hb602 => ?_)
    · replace h := condT hb602 h
      refine cw_skip (cw_seq ?_)
      refine cw_cut (fun st => ∃ (v653 : Bool) (v651 : List Str) (v652 : List Str), r1_classes_k4 v500 (r1_classes_l3 p0 v1 g3) v653 v651 v652 = some r ∧ st = ⟨ls [(1, .ptr 0 0 0), (3, ar v1), (4, .own 9 0 v651.length), (5, .own 10 0 v652.length), (6, bo v653), (7, i64 v500)], hl [(0, ⟨[[tx p0.Dn, ar p0.Attrs]], 2⟩), (9, ob (v651 : List Str)), (10, ob (v652 : List Str))], 35⟩) ?_ ?_
      · skip
        refine cw_block (cw_seq ?_)
        obtain ⟨v655, hv655, h⟩ := bindE h
        obtain ⟨v656, hv656, h⟩ := bindE h
        obtain ⟨v657, hv657, h⟩ := bindE h
        refine cw_rg hnt rfl (x_mv (eA rfl) (k0 rfl) <| x_mv (eI rfl) (k0 rfl) <| x_ia E27 rfl (eX (ar v1) rfl) rfl hv655 (k0 rfl) <| x_ld L9 (eQ rfl) rfl (sX (tx v655) rfl) (k0 rfl) <| x_pu (eF rfl) P63 (c_r1_Fold v655 v656 hv656) rfl (k0 rfl) <| x_pu (eF rfl) P12 (c_r1_FindClass v656 v657 hv657) rfl (k0 rfl) <| x_al Z33 (k0 rfl) <| x_st L33 (eP rfl) rfl rfl rfl rfl (k0 rfl) <| lx_nil) (cw_seq (cw_seq (cw_rg hnt rfl (x_fp F33_1 (eP rfl) (k0 rfl) <| x_ld L4 (eP rfl) rfl (sX (bo v657.Ok) rfl) (k0 rfl) <| x_not (eB rfl) (k0 rfl) <| lx_nil) ?_)))
        refine cw_cond rfl (fun hb658 => ?_) (fun hb658 => ?_)
        · replace h := condT hb658 h
          refine cw_seq (cw_rg hnt rfl (x_as (eB rfl) (k0 rfl) <| lx_nil) (cw_ret (cw_rc (cw_rb (cw_rt (cw_rc (cw_rt (cw_rb (cw_rt (cw_rc (cw_rn ?_)))))))))))
          cases h
          exact ⟨rfl, sub0⟩
        · replace h := condF hb658 h
          refine cw_skip (cw_seq ?_)
          obtain ⟨v660, hq, h⟩ := bindE h
          refine cw_rl [(6, bo v660)] (D := [29, 30, 31, 32, 33, 34, 6]) hnt rfl rfl (by
            rcases Bool.eq_false_or_eq_true (v499) with hb659 | hb659
            · replace hq := condT hb659 hq
              replace hq := Option.some.inj hq
              subst hq
              exact ⟨_, _, x_mv (eB rfl) (k0 rfl) <| x_mv (eB rfl) (k0 rfl) <| lx_off rfl rfl (congrArg bo hb659) rfl <| lx_off rfl rfl (congrArg bo hb659) rfl <| lx_off rfl rfl (congrArg bo hb659) rfl <| x_pt rfl hb659 (eB rfl) (k0 rfl) <| x_as (eB rfl) (k0 rfl) <| lx_nil, ⟨rfl, trivial⟩⟩
            · replace hq := condF hb659 hq
              replace hq := Option.some.inj hq
              subst hq
              exact ⟨_, _, x_mv (eB rfl) (k0 rfl) <| x_mv (eB rfl) (k0 rfl) <| x_fp F33_0 (eP rfl) (k1 rfl rfl rfl (congrArg bo hb659)) <| x_fp F29_2 (eP rfl) (k1 rfl rfl rfl (congrArg bo hb659)) <| x_ld L4 (eP rfl) rfl (sX (bo v657.C.Structural) rfl) (k1 rfl rfl rfl (congrArg bo hb659)) <| x_pf rfl hb659 (eB rfl) (k0 rfl) <| x_as (eB rfl) (k0 rfl) <| lx_nil, ⟨rfl, trivial⟩⟩) ?_
          refine cw_cut (fun st => ∃ (v681 : List Str) (v682 : List Str), r1_classes_k5 v500 (r1_classes_l3 p0 v1 g3) v660 v681 v682 = some r ∧ st = ⟨ls [(1, .ptr 0 0 0), (3, ar v1), (4, .own 9 0 v681.length), (5, .own 10 0 v682.length), (6, bo v660), (7, i64 v500)], hl [(0, ⟨[[tx p0.Dn, ar p0.Attrs]], 2⟩), (9, ob (v681 : List Str)), (10, ob (v682 : List Str))], 35⟩) ?_ ?_
          · skip
            refine cw_block (cw_to (to_ren (N := 0) (n' := 33) (L := [(1, .ptr 0 0 0), (3, ar v1), (4, .own 9 0 v497.length), (5, .own 10 0 v498.length), (6, bo v660), (7, i64 v500), (8, .ptr 21 0 0)]) (H := [(0, ⟨[[tx p0.Dn, ar p0.Attrs]], 2⟩), (9, ob (v497 : List Str)), (10, ob (v498 : List Str)), (21, ⟨[[tx v657.C.Name, tx v657.C.Sup, bo v657.C.Structural, ar v657.C.Must, ar v657.C.May, bo v657.Ok]], 6⟩)]) (id) [0, 9, 10, 21] [] hn rfl rfl rfl fix0 (by decide) ⟨(Tr.ptr rfl), tra, (Tr.own rfl), (Tr.own rfl), trv, trv, (Tr.ptr rfl), trivial⟩ ⟨.inr ⟨rfl, _, rfl, TrO.cell (.cons trv (.cons tra .nil)) rfl⟩, .inr ⟨rfl, _, rfl, tro⟩, .inr ⟨rfl, _, rfl, tro⟩, .inr ⟨rfl, _, rfl, TrO.cell (.cons trv (.cons trv (.cons trv (.cons tra (.cons tra (.cons trv .nil)))))) rfl⟩, trivial⟩) ?_)
            refine cw_loop (fun g st => ∃ (v687 : List Str) (v688 : List Str) (v689 : Str) (v690 : Str) (v691 : Bool) (v692 : List Str) (v693 : List Str) (v694 : Bool), r1_classes_l4 v500 (r1_classes_l3 p0 v1 g3) v660 g v687 v688 v689 v690 v691 v692 v693 v694 = some r ∧ st = ⟨ls [(1, .ptr 0 0 0), (3, ar v1), (4, .own 9 0 v687.length), (5, .own 10 0 v688.length), (6, bo v660), (7, i64 v500), (8, .ptr 21 0 0)], hl [(0, ⟨[[tx p0.Dn, ar p0.Attrs]], 2⟩), (9, ob (v687 : List Str)), (10, ob (v688 : List Str)), (21, ⟨[[tx v689, tx v690, bo v691, ar v692, ar v693, bo v694]], 6⟩)], 33⟩) FUEL ⟨v497, v498, v657.C.Name, v657.C.Sup, v657.C.Structural, v657.C.Must, v657.C.May, v657.Ok, h, rfl⟩ ?_
            rintro g _ ⟨v687, v688, v689, v690, v691, v692, v693, v694, h, rfl⟩
            rcases g with _ | g4
            · rw [r1_classes_l4] at h; cases h
            rw [r1_classes_l4] at h
            refine cw_seq (cw_seq (cw_rg hnt rfl (x_fp F33_1 (eP rfl) (k0 rfl) <| x_ld L4 (eP rfl) rfl (sX (bo v694) rfl) (k0 rfl) <| lx_nil) ?_))
            refine cw_cond rfl (fun hb699 => ?_) (fun hb699 => ?_)
            · replace h := condT hb699 h
              refine cw_skip (cw_block (cw_seq ?_))
              obtain ⟨v700, hv700, h⟩ := bindE h
              refine cw_rg hnt rfl (x_mv (eO rfl) (k0 rfl) <| x_fp F33_0 (eP rfl) (k0 rfl) <| x_fp F29_3 (eP rfl) (k0 rfl) <| x_ld L27 (eP rfl) rfl (sX (ar v692) rfl) (k0 rfl) <| x_apO (l1 := v687) E27 rfl rfl rfl (vlA' (l := (v692 : List Str)) rfl rfl) hv700 (k0 rfl) <| x_as (eO rfl) (k0 rfl) <| lx_nil) (cw_seq ?_)
              obtain ⟨v701, hv701, h⟩ := bindE h
              refine cw_rg hnt rfl (x_mv (eO rfl) (k0 rfl) <| x_fp F33_0 (eP rfl) (k0 rfl) <| x_fp F29_4 (eP rfl) (k0 rfl) <| x_ld L27 (eP rfl) rfl (sX (ar v693) rfl) (k0 rfl) <| x_apO (l1 := v688) E27 rfl rfl rfl (vlA' (l := (v693 : List Str)) rfl rfl) hv701 (k0 rfl) <| x_as (eO rfl) (k0 rfl) <| lx_nil) ?_
              obtain ⟨v702, hv702, h⟩ := bindE h
              refine cw_rg hnt rfl (x_fp F33_0 (eP rfl) (k0 rfl) <| x_fp F29_1 (eP rfl) (k0 rfl) <| x_ld L9 (eP rfl) rfl (sX (tx v690) rfl) (k0 rfl) <| x_pu (eF rfl) P12 (c_r1_FindClass v690 v702 hv702) rfl (k0 rfl) <| x_st L33 (eP rfl) rfl rfl rfl rfl (k0 rfl) <| lx_nil) (cw_blk (cw_nil ?_))
              exact ⟨g4, _, Nat.lt_succ_self _, (to_ren (N := 0) (n' := 33) (L := [(1, .ptr 0 0 0), (3, ar v1), (4, .own 9 0 v700.length), (5, .own 10 0 v701.length), (6, bo v660), (7, i64 v500), (8, .ptr 21 0 0)]) (H := [(0, ⟨[[tx p0.Dn, ar p0.Attrs]], 2⟩), (9, ob (v700 : List Str)), (10, ob (v701 : List Str)), (21, ⟨[[tx v702.C.Name, tx v702.C.Sup, bo v702.C.Structural, ar v702.C.Must, ar v702.C.May, bo v702.Ok]], 6⟩)]) (fun y => bif Nat.beq y 9 then 39 else bif Nat.beq y 10 then 45 else y) [0, 9, 10, 21] [] hn rfl rfl rfl fix0 (by decide) ⟨(Tr.ptr rfl), tra, (Tr.own rfl), (Tr.own rfl), trv, trv, (Tr.ptr rfl), trivial⟩ ⟨.inr ⟨rfl, _, rfl, TrO.cell (.cons trv (.cons tra .nil)) rfl⟩, .inr ⟨rfl, _, rfl, tro⟩, .inr ⟨rfl, _, rfl, tro⟩, .inr ⟨rfl, _, rfl, TrO.cell (.cons trv (.cons trv (.cons trv (.cons tra (.cons tra (.cons trv .nil)))))) rfl⟩, trivial⟩), v700, v701, v702.C.Name, v702.C.Sup, v702.C.Structural, v702.C.Must, v702.C.May, v702.Ok, h, rfl⟩
            · replace h := condF hb699 h
              refine cw_exit (cw_xc (cw_xt (cw_xb (cw_nil ?_))))
              exact ⟨_, (to_ren (N := 0) (n' := 35) (L := [(1, .ptr 0 0 0), (3, ar v1), (4, .own 9 0 v687.length), (5, .own 10 0 v688.length), (6, bo v660), (7, i64 v500)]) (H := [(0, ⟨[[tx p0.Dn, ar p0.Attrs]], 2⟩), (9, ob (v687 : List Str)), (10, ob (v688 : List Str))]) (id) [0, 9, 10] [] hn rfl rfl rfl fix0 (by decide) ⟨(Tr.ptr rfl), tra, (Tr.own rfl), (Tr.own rfl), trv, trv, trivial⟩ ⟨.inr ⟨rfl, _, rfl, TrO.cell (.cons trv (.cons tra .nil)) rfl⟩, .inr ⟨rfl, _, rfl, tro⟩, .inr ⟨rfl, _, rfl, tro⟩, trivial⟩), v687, v688, h, rfl⟩
          · rintro _ ⟨v681, v682, h, rfl⟩
            rw [r1_classes_k5] at h
            refine cw_blk (cw_nil ?_)
            exact ⟨_, (to_ren (N := 0) (n' := 35) (L := [(1, .ptr 0 0 0), (3, ar v1), (4, .own 9 0 v681.length), (5, .own 10 0 v682.length), (6, bo v660), (7, i64 v500)]) (H := [(0, ⟨[[tx p0.Dn, ar p0.Attrs]], 2⟩), (9, ob (v681 : List Str)), (10, ob (v682 : List Str))]) (id) [0, 9, 10] [] hn rfl rfl rfl fix0 (by decide) ⟨(Tr.ptr rfl), tra, (Tr.own rfl), (Tr.own rfl), trv, trv, trivial⟩ ⟨.inr ⟨rfl, _, rfl, TrO.cell (.cons trv (.cons tra .nil)) rfl⟩, .inr ⟨rfl, _, rfl, tro⟩, .inr ⟨rfl, _, rfl, tro⟩, trivial⟩), v660, v681, v682, h, rfl⟩
      · rintro _ ⟨v653, v651, v652, h, rfl⟩
        rw [r1_classes_k4] at h
        obtain ⟨v654, hv654, h⟩ := bindE h
        refine cw_rg hnt rfl (x_mv (eI rfl) (k0 rfl) <| x_ai (eI rfl) (eI rfl) hv654 (k0 rfl) <| x_as (eI rfl) (k0 rfl) <| lx_nil) (cw_nil ?_)
        exact ⟨g3, _, Nat.lt_succ_self _, (to_ren (N := 0) (n' := 11) (L := [(1, .ptr 0 0 0), (3, ar v1), (4, .own 9 0 v651.length), (5, .own 10 0 v652.length), (6, bo v653), (7, i64 v654)]) (H := [(0, ⟨[[tx p0.Dn, ar p0.Attrs]], 2⟩), (9, ob (v651 : List Str)), (10, ob (v652 : List Str))]) (id) [0, 9, 10] [] hn rfl rfl rfl fix0 (by decide) ⟨(Tr.ptr rfl), tra, (Tr.own rfl), (Tr.own rfl), trv, trv, trivial⟩ ⟨.inr ⟨rfl, _, rfl, TrO.cell (.cons trv (.cons tra .nil)) rfl⟩, .inr ⟨rfl, _, rfl, tro⟩, .inr ⟨rfl, _, rfl, tro⟩, trivial⟩), v653, v654, v651, v652, h, rfl⟩
    · replace h := condF hb602 h
      refine cw_exit (cw_xc (cw_xt (cw_xb (cw_nil ?_))))
      exact ⟨_, (to_ren (N := 0) (n' := 15) (L := [(1, .ptr 0 0 0), (4, .own 9 0 v497.length), (5, .own 10 0 v498.length), (6, bo v499)]) (H := [(0, ⟨[[tx p0.Dn, ar p0.Attrs]], 2⟩), (9, ob (v497 : List Str)), (10, ob (v498 : List Str))]) (id) [0, 9, 10] [] hn rfl rfl rfl fix0 (by decide) ⟨(Tr.ptr rfl), (Tr.own rfl), (Tr.own rfl), trv, trivial⟩ ⟨.inr ⟨rfl, _, rfl, TrO.cell (.cons trv (.cons tra .nil)) rfl⟩, .inr ⟨rfl, _, rfl, tro⟩, .inr ⟨rfl, _, rfl, tro⟩, trivial⟩), v499, v497, v498, h, rfl⟩
  · rintro _ ⟨v309, v307, v308, h, rfl⟩
    rw [r1_classes_k1] at h
    refine cw_seq (cw_seq (cw_rg hnt rfl (x_as (eI rfl) (k0 rfl) <| lx_nil) ?_))
    refine cw_cut (fun st => r1_classes_k2 p0 v307 v308 v309 = some r ∧ st = ⟨ls [(1, .ptr 0 0 0), (4, .own 9 0 v307.length), (5, .own 10 0 v308.length), (6, bo v309)], hl [(0, ⟨[[tx p0.Dn, ar p0.Attrs]], 2⟩), (9, ob (v307 : List Str)), (10, ob (v308 : List Str))], 20⟩) ?_ ?_
    · skip
      refine cw_block (cw_to (to_ren (N := 0) (n' := 16) (L := [(1, .ptr 0 0 0), (4, .own 9 0 v307.length), (5, .own 10 0 v308.length), (6, bo v309), (9, i64 0)]) (H := [(0, ⟨[[tx p0.Dn, ar p0.Attrs]], 2⟩), (9, ob (v307 : List Str)), (10, ob (v308 : List Str))]) (id) [0, 9, 10] [] hn rfl rfl rfl fix0 (by decide) ⟨(Tr.ptr rfl), (Tr.own rfl), (Tr.own rfl), trv, trv, trivial⟩ ⟨.inr ⟨rfl, _, rfl, TrO.cell (.cons trv (.cons tra .nil)) rfl⟩, .inr ⟨rfl, _, rfl, tro⟩, .inr ⟨rfl, _, rfl, tro⟩, trivial⟩) ?_)
      refine cw_loop (fun g st => ∃ (v387 : Int), r1_classes_l2 p0 v307 v308 v309 g v387 = some r ∧ st = ⟨ls [(1, .ptr 0 0 0), (4, .own 9 0 v307.length), (5, .own 10 0 v308.length), (6, bo v309), (9, i64 v387)], hl [(0, ⟨[[tx p0.Dn, ar p0.Attrs]], 2⟩), (9, ob (v307 : List Str)), (10, ob (v308 : List Str))], 16⟩) FUEL ⟨0, h, rfl⟩ ?_
      rintro g _ ⟨v387, h, rfl⟩
      rcases g with _ | g2
      · rw [r1_classes_l2] at h; cases h
      rw [r1_classes_l2] at h
      refine cw_seq (cw_seq (cw_rg hnt rfl (x_mv (eI rfl) (k0 rfl) <| x_mv (eO rfl) (k0 rfl) <| x_ln (n := v307.length) E27 rfl (k0 rfl) <| x_ci (eX (.val (.int .i64 v387)) rfl) (eX (.val (.int .i64 (v307.length : Int))) rfl) rfl (k0 rfl) <| lx_nil) ?_))
      refine cw_cond rfl (fun hb393 => ?_) (fun hb393 => ?_)
      · replace h := condT hb393 h
        refine cw_skip (cw_seq (cw_block (cw_seq ?_)))
        obtain ⟨v394, hv394, h⟩ := bindE h
        obtain ⟨v395, hv395, h⟩ := bindE h
        refine cw_ra [] [] [] [5, 6] hnt rfl Tryz.mixed (by kernel_rfl) rfl (by decide) (x_ld L24 (eP rfl) rfl (sX (.agg [tx p0.Dn, ar p0.Attrs]) rfl) (k0 rfl) <| x_mv (eO rfl) (k0 rfl) <| x_mv (eI rfl) (k0 rfl) <| x_io E27 rfl (eO rfl) rfl rfl (lgB hv394) (k0 rfl) <| x_ldE L9 (eP rfl) rfl (lgO hv394) (sX (tx v394) rfl) (k0 rfl) <| x_pu (eF rfl) P65 (c_r1_attr p0 v394 v395 hv395) rfl (k0 rfl) <| x_ci (eX (.val (.int .i64 v395)) rfl) (eX (.val (.int .i64 0)) rfl) rfl (k0 rfl) <| lx_nil) ?_
        refine cw_cond rfl (fun hb396 => ?_) (fun hb396 => ?_)
        · replace h := condT hb396 h
          refine cw_seq (cw_rg hnt rfl (x_as (eB rfl) (k0 rfl) <| lx_nil) (cw_ret (cw_rb (cw_rc (cw_rt (cw_rb (cw_rt (cw_rc (cw_rn ?_)))))))))
          cases h
          exact ⟨rfl, sub0⟩
        · replace h := condF hb396 h
          refine cw_skip (cw_blk ?_)
          obtain ⟨v397, hv397, h⟩ := bindE h
          refine cw_rg hnt rfl (x_mv (eI rfl) (k0 rfl) <| x_ai (eI rfl) (eI rfl) hv397 (k0 rfl) <| x_as (eI rfl) (k0 rfl) <| lx_nil) (cw_nil ?_)
          exact ⟨g2, _, Nat.lt_succ_self _, (to_ren (N := 0) (n' := 16) (L := [(1, .ptr 0 0 0), (4, .own 9 0 v307.length), (5, .own 10 0 v308.length), (6, bo v309), (9, i64 v397)]) (H := [(0, ⟨[[tx p0.Dn, ar p0.Attrs]], 2⟩), (9, ob (v307 : List Str)), (10, ob (v308 : List Str))]) (id) [0, 9, 10] [] hn rfl rfl rfl fix0 (by decide) ⟨(Tr.ptr rfl), (Tr.own rfl), (Tr.own rfl), trv, trv, trivial⟩ ⟨.inr ⟨rfl, _, rfl, TrO.cell (.cons trv (.cons tra .nil)) rfl⟩, .inr ⟨rfl, _, rfl, tro⟩, .inr ⟨rfl, _, rfl, tro⟩, trivial⟩), v397, h, rfl⟩
      · replace h := condF hb393 h
        refine cw_exit (cw_xc (cw_xt (cw_xb (cw_nil ?_))))
        exact ⟨_, (to_ren (N := 0) (n' := 20) (L := [(1, .ptr 0 0 0), (4, .own 9 0 v307.length), (5, .own 10 0 v308.length), (6, bo v309)]) (H := [(0, ⟨[[tx p0.Dn, ar p0.Attrs]], 2⟩), (9, ob (v307 : List Str)), (10, ob (v308 : List Str))]) (id) [0, 9, 10] [] hn rfl rfl rfl fix0 (by decide) ⟨(Tr.ptr rfl), (Tr.own rfl), (Tr.own rfl), trv, trivial⟩ ⟨.inr ⟨rfl, _, rfl, TrO.cell (.cons trv (.cons tra .nil)) rfl⟩, .inr ⟨rfl, _, rfl, tro⟩, .inr ⟨rfl, _, rfl, tro⟩, trivial⟩), h, rfl⟩
    · rintro _ ⟨h, rfl⟩
      rw [r1_classes_k2] at h
      refine cw_seq (cw_seq (cw_rg hnt rfl (x_as (eI rfl) (k0 rfl) <| lx_nil) ?_))
      refine cw_cut (fun st => r1_classes_k3 v309 = some r ∧ st = ⟨ls [(6, bo v309)], hl [], 26⟩) ?_ ?_
      · skip
        refine cw_block (cw_to (to_ren (N := 0) (n' := 21) (L := [(1, .ptr 0 0 0), (4, .own 9 0 v307.length), (5, .own 10 0 v308.length), (6, bo v309), (10, i64 0)]) (H := [(0, ⟨[[tx p0.Dn, ar p0.Attrs]], 2⟩), (9, ob (v307 : List Str)), (10, ob (v308 : List Str))]) (id) [0, 9, 10] [] hn rfl rfl rfl fix0 (by decide) ⟨(Tr.ptr rfl), (Tr.own rfl), (Tr.own rfl), trv, trv, trivial⟩ ⟨.inr ⟨rfl, _, rfl, TrO.cell (.cons trv (.cons tra .nil)) rfl⟩, .inr ⟨rfl, _, rfl, tro⟩, .inr ⟨rfl, _, rfl, tro⟩, trivial⟩) ?_)
        refine cw_loop (fun g st => ∃ (v363 : Int), r1_classes_l1 p0 v307 v308 v309 g v363 = some r ∧ st = ⟨ls [(1, .ptr 0 0 0), (4, .own 9 0 v307.length), (5, .own 10 0 v308.length), (6, bo v309), (10, i64 v363)], hl [(0, ⟨[[tx p0.Dn, ar p0.Attrs]], 2⟩), (9, ob (v307 : List Str)), (10, ob (v308 : List Str))], 21⟩) FUEL ⟨0, h, rfl⟩ ?_
        rintro g _ ⟨v363, h, rfl⟩
        rcases g with _ | g1
        · rw [r1_classes_l1] at h; cases h
        rw [r1_classes_l1] at h
        refine cw_seq (cw_seq (cw_rg hnt rfl (x_mv (eI rfl) (k0 rfl) <| x_fp F24_1 (eP rfl) (k0 rfl) <| x_ld L22 (eP rfl) rfl (sX (ar p0.Attrs) rfl) (k0 rfl) <| x_lnA E22 (eX (ar p0.Attrs) rfl) (k0 rfl) <| x_ci (eX (.val (.int .i64 v363)) rfl) (eX (.val (.int .i64 (p0.Attrs.length : Int))) rfl) rfl (k0 rfl) <| lx_nil) ?_))
        refine cw_cond rfl (fun hb373 => ?_) (fun hb373 => ?_)
        · replace h := condT hb373 h
          refine cw_skip (cw_seq (cw_block (cw_seq ?_)))
          obtain ⟨v374, hv374, h⟩ := bindE h
          obtain ⟨v375, hv375, h⟩ := bindE h
          refine cw_rg hnt rfl (x_fp F24_1 (eP rfl) (k0 rfl) <| x_ld L22 (eP rfl) rfl (sX (ar p0.Attrs) rfl) (k0 rfl) <| x_mv (eI rfl) (k0 rfl) <| x_ia E22 rfl (eX (ar p0.Attrs) rfl) rfl hv374 (k0 rfl) <| x_fq F42_0 (eQ rfl) (k0 rfl) <| x_ld L9 (eQ rfl) rfl (sX (tx v374.Typ) rfl) (k0 rfl) <| x_pu (eF rfl) P21 (c_r1_Lower v374.Typ v375 hv375) rfl (k0 rfl) <| x_as (eT rfl) (k0 rfl) <| lx_nil) (cw_seq ?_)
          obtain ⟨v379, hq, h⟩ := bindE h
          refine cw_rl [(87, bo v379)] (D := [78, 79, 80, 81, 82, 83, 84, 85, 86, 87]) hnt rfl rfl (by
            obtain ⟨v376, hv376, hq⟩ := bindE hq
            rcases Bool.eq_false_or_eq_true ((!v376)) with hb377 | hb377
            · replace hq := condT hb377 hq
              obtain ⟨v378, hv378, hq⟩ := bindE hq
              replace hq := Option.some.inj hq
              subst hq
              exact ⟨_, _, x_mv (eO rfl) (k0 rfl) <| x_mv (eT rfl) (k0 rfl) <| x_bo (eF rfl) P69 (c_r1_Among v307 v375 v376 hv376) (id := 9) rfl rfl (fzc fzO (fzc Fz2.keep fzn)) Pl.val (k0 rfl) <| x_not (eB rfl) (k0 rfl) <| x_mv (eB rfl) (k0 rfl) <| x_mv (eO rfl) (k1 rfl rfl rfl (congrArg bo hb377)) <| x_mv (eT rfl) (k1 rfl rfl rfl (congrArg bo hb377)) <| x_bo (eF rfl) P69 (c_r1_Among v308 v375 v378 hv378) (id := 10) rfl rfl (fzc fzO (fzc Fz2.keep fzn)) Pl.val (k1 rfl rfl rfl (congrArg bo hb377)) <| x_not (eB rfl) (k1 rfl rfl rfl (congrArg bo hb377)) <| x_pt rfl hb377 (eB rfl) (k0 rfl) <| lx_nil, ⟨rfl, trivial⟩⟩
            · replace hq := condF hb377 hq
              replace hq := Option.some.inj hq
              subst hq
              exact ⟨_, _, x_mv (eO rfl) (k0 rfl) <| x_mv (eT rfl) (k0 rfl) <| x_bo (eF rfl) P69 (c_r1_Among v307 v375 v376 hv376) (id := 9) rfl rfl (fzc fzO (fzc Fz2.keep fzn)) Pl.val (k0 rfl) <| x_not (eB rfl) (k0 rfl) <| x_mv (eB rfl) (k0 rfl) <| lx_off rfl rfl (congrArg bo hb377) rfl <| lx_off rfl rfl (congrArg bo hb377) rfl <| lx_off rfl rfl (congrArg bo hb377) rfl <| lx_off rfl rfl (congrArg bo hb377) rfl <| x_pf rfl hb377 (eB rfl) (k0 rfl) <| lx_nil, ⟨rfl, trivial⟩⟩) ?_
          refine cw_cond rfl (fun hb380 => ?_) (fun hb380 => ?_)
          · replace h := condT hb380 h
            refine cw_seq (cw_rg hnt rfl (x_as (eB rfl) (k0 rfl) <| lx_nil) (cw_ret (cw_rb (cw_rc (cw_rt (cw_rb (cw_rt (cw_rc (cw_rn ?_)))))))))
            cases h
            exact ⟨rfl, sub0⟩
          · replace h := condF hb380 h
            refine cw_skip (cw_blk ?_)
            obtain ⟨v381, hv381, h⟩ := bindE h
            refine cw_rg hnt rfl (x_mv (eI rfl) (k0 rfl) <| x_ai (eI rfl) (eI rfl) hv381 (k0 rfl) <| x_as (eI rfl) (k0 rfl) <| lx_nil) (cw_nil ?_)
            exact ⟨g1, _, Nat.lt_succ_self _, (to_ren (N := 0) (n' := 21) (L := [(1, .ptr 0 0 0), (4, .own 9 0 v307.length), (5, .own 10 0 v308.length), (6, bo v309), (10, i64 v381)]) (H := [(0, ⟨[[tx p0.Dn, ar p0.Attrs]], 2⟩), (9, ob (v307 : List Str)), (10, ob (v308 : List Str))]) (id) [0, 9, 10] [] hn rfl rfl rfl fix0 (by decide) ⟨(Tr.ptr rfl), (Tr.own rfl), (Tr.own rfl), trv, trv, trivial⟩ ⟨.inr ⟨rfl, _, rfl, TrO.cell (.cons trv (.cons tra .nil)) rfl⟩, .inr ⟨rfl, _, rfl, tro⟩, .inr ⟨rfl, _, rfl, tro⟩, trivial⟩), v381, h, rfl⟩
        · replace h := condF hb373 h
          refine cw_exit (cw_xc (cw_xt (cw_xb (cw_nil ?_))))
          exact ⟨_, (to_ren (N := 0) (n' := 26) (L := [(6, bo v309)]) (H := []) (id) [] [] hn rfl rfl rfl fix0 .nil ⟨trv, trivial⟩ trivial), h, rfl⟩
      · rintro _ ⟨h, rfl⟩
        rw [r1_classes_k3] at h
        refine cw_seq (cw_rg hnt rfl (x_mv (eB rfl) (k0 rfl) <| x_as (eB rfl) (k0 rfl) <| lx_nil) (cw_ret (cw_rn ?_)))
        cases h
        exact ⟨rfl, sub0⟩

theorem c_r1_Has (p0 : T_Entry) (p1 : Str) (p2 : Str) (r : Bool) (h : s_r1_Has p0 p1 p2 = some r) : Pu Tryz.prog 40 [.agg (enc p0), tx p1, tx p2] (bo r) := by
  refine ⟨(nfc nfe (nfc nfv (nfc nfv nfn))), nfv, fs_start _ _ Tryz.func40 rfl Tryz.ntmps40 Tryz.results40 rfl fun X hnt hn => ?_⟩
  rw [s_r1_Has] at h
  refine cw_seq (cw_rg hnt rfl (x_bx rfl (k0 rfl) <| x_as (eB rfl) (k0 rfl) <| lx_nil) (cw_seq ?_))
  obtain ⟨v1, hv1, h⟩ := bindE h
  refine cw_rg hnt rfl (x_ld L24 (eP rfl) rfl (sX (.agg [tx p0.Dn, ar p0.Attrs]) rfl) (k0 rfl) <| x_mv (eT rfl) (k0 rfl) <| x_pu (eF rfl) P68 (c_r1_Vals p0 p1 v1 hv1) rfl (k0 rfl) <| x_as (eA rfl) (k0 rfl) <| lx_nil) (cw_seq (cw_seq (cw_rg hnt rfl (x_as (eI rfl) (k0 rfl) <| lx_nil) ?_)))
  refine cw_cut (fun st => r1_Has_k1 = some r ∧ st = ⟨ls [], hl [], 11⟩) ?_ ?_
  · skip
    refine cw_block (cw_to (to_ren (N := 0) (n' := 7) (L := [(1, tx p1), (2, tx p2), (7, ar v1), (8, i64 0)]) (H := []) (id) [] [] hn rfl rfl rfl fix0 .nil ⟨trv, trv, tra, trv, trivial⟩ trivial) ?_)
    refine cw_loop (fun g st => ∃ (v23 : Int), r1_Has_l1 p1 p2 v1 g v23 = some r ∧ st = ⟨ls [(1, tx p1), (2, tx p2), (7, ar v1), (8, i64 v23)], hl [], 7⟩) FUEL ⟨0, h, rfl⟩ ?_
    rintro g _ ⟨v23, h, rfl⟩
    rcases g with _ | g1
    · rw [r1_Has_l1] at h; cases h
    rw [r1_Has_l1] at h
    refine cw_seq (cw_seq (cw_rg hnt rfl (x_mv (eI rfl) (k0 rfl) <| x_mv (eA rfl) (k0 rfl) <| x_lnA E27 (eX (ar v1) rfl) (k0 rfl) <| x_ci (eX (.val (.int .i64 v23)) rfl) (eX (.val (.int .i64 (v1.length : Int))) rfl) rfl (k0 rfl) <| lx_nil) ?_))
    refine cw_cond rfl (fun hb29 => ?_) (fun hb29 => ?_)
    · replace h := condT hb29 h
      refine cw_skip (cw_seq (cw_block (cw_seq ?_)))
      obtain ⟨v30, hv30, h⟩ := bindE h
      obtain ⟨v31, hv31, h⟩ := bindE h
      refine cw_rg hnt rfl (x_mv (eT rfl) (k0 rfl) <| x_mv (eA rfl) (k0 rfl) <| x_mv (eI rfl) (k0 rfl) <| x_ia E27 rfl (eX (ar v1) rfl) rfl hv30 (k0 rfl) <| x_ld L9 (eQ rfl) rfl (sX (tx v30) rfl) (k0 rfl) <| x_mv (eT rfl) (k0 rfl) <| x_pu (eF rfl) P67 (c_r1_SameVal p1 v30 p2 v31 hv31) rfl (k0 rfl) <| lx_nil) ?_
      refine cw_cond rfl (fun hb32 => ?_) (fun hb32 => ?_)
      · replace h := condT hb32 h
        refine cw_seq (cw_rg hnt rfl (x_as (eB rfl) (k0 rfl) <| lx_nil) (cw_ret (cw_rb (cw_rc (cw_rt (cw_rb (cw_rt (cw_rc (cw_rn ?_)))))))))
        cases h
        exact ⟨rfl, sub0⟩
      · replace h := condF hb32 h
        refine cw_skip (cw_blk ?_)
        obtain ⟨v33, hv33, h⟩ := bindE h
        refine cw_rg hnt rfl (x_mv (eI rfl) (k0 rfl) <| x_ai (eI rfl) (eI rfl) hv33 (k0 rfl) <| x_as (eI rfl) (k0 rfl) <| lx_nil) (cw_nil ?_)
        exact ⟨g1, _, Nat.lt_succ_self _, (to_ren (N := 0) (n' := 7) (L := [(1, tx p1), (2, tx p2), (7, ar v1), (8, i64 v33)]) (H := []) (id) [] [] hn rfl rfl rfl fix0 .nil ⟨trv, trv, tra, trv, trivial⟩ trivial), v33, h, rfl⟩
    · replace h := condF hb29 h
      refine cw_exit (cw_xc (cw_xt (cw_xb (cw_nil ?_))))
      exact ⟨_, (to_ren (N := 0) (n' := 11) (L := []) (H := []) (id) [] [] hn rfl rfl rfl fix0 .nil trivial trivial), h, rfl⟩
  · rintro _ ⟨h, rfl⟩
    rw [r1_Has_k1] at h
    refine cw_seq (cw_rg hnt rfl (x_as (eB rfl) (k0 rfl) <| lx_nil) (cw_ret (cw_rn ?_)))
    cases h
    exact ⟨rfl, sub0⟩

theorem c_r1_Check (p0 : T_Entry) (r : Int) (h : s_r1_Check p0 = some r) : Pu Tryz.prog 14 [.agg (enc p0)] (i64 r) := by
  refine ⟨(nfc nfe nfn), nfv, fs_start _ _ Tryz.func14 rfl Tryz.ntmps14 Tryz.results14 rfl fun X hnt hn => ?_⟩
  rw [s_r1_Check] at h
  refine cw_seq (cw_rg hnt rfl (x_bx rfl (k0 rfl) <| x_as (eI rfl) (k0 rfl) <| lx_nil) (cw_seq ?_))
  obtain ⟨v1, hv1, h⟩ := bindE h
  refine cw_rg hnt rfl (x_fp F24_0 (eP rfl) (k0 rfl) <| x_ld L9 (eP rfl) rfl (sX (tx p0.Dn) rfl) (k0 rfl) <| x_pu (eF rfl) P36 (c_r1_ParseDn p0.Dn v1 hv1) rfl (k0 rfl) <| x_al Z69 (k0 rfl) <| x_st L69 (eP rfl) rfl rfl rfl rfl (k0 rfl) <| lx_nil) (cw_seq (cw_seq ?_))
  obtain ⟨v5, hq, h⟩ := bindE h
  refine cw_rl [(23, bo v5)] (D := [8, 9, 10, 11, 12, 13, 14, 15, 16, 17, 18, 19, 20, 21, 22, 23]) hnt rfl rfl (by
    rcases Bool.eq_false_or_eq_true ((!v1.Ok)) with hb2 | hb2
    · replace hq := condT hb2 hq
      replace hq := Option.some.inj hq
      subst hq
      exact ⟨_, _, x_fp F69_1 (eP rfl) (k0 rfl) <| x_ld L4 (eP rfl) rfl (sX (bo v1.Ok) rfl) (k0 rfl) <| x_not (eB rfl) (k0 rfl) <| x_mv (eB rfl) (k0 rfl) <| lx_off rfl rfl (congrArg bo hb2) rfl <| lx_off rfl rfl (congrArg bo hb2) rfl <| lx_off rfl rfl (congrArg bo hb2) rfl <| lx_off rfl rfl (congrArg bo hb2) rfl <| x_pt rfl hb2 (eB rfl) (k0 rfl) <| x_mv (eB rfl) (k0 rfl) <| lx_off rfl rfl rfl rfl <| lx_off rfl rfl rfl rfl <| lx_off rfl rfl rfl rfl <| lx_off rfl rfl rfl rfl <| lx_off rfl rfl rfl rfl <| x_pt rfl rfl (eB rfl) (k0 rfl) <| lx_nil, ⟨rfl, trivial⟩⟩
    · replace hq := condF hb2 hq
      rcases Bool.eq_false_or_eq_true (((v1.L.length : Int) == 0)) with hb3 | hb3
      · replace hq := condT hb3 hq
        replace hq := Option.some.inj hq
        subst hq
        exact ⟨_, _, x_fp F69_1 (eP rfl) (k0 rfl) <| x_ld L4 (eP rfl) rfl (sX (bo v1.Ok) rfl) (k0 rfl) <| x_not (eB rfl) (k0 rfl) <| x_mv (eB rfl) (k0 rfl) <| x_fp F69_0 (eP rfl) (k1 rfl rfl rfl (congrArg bo hb2)) <| x_ld L50 (eP rfl) rfl (sX (ar v1.L) rfl) (k1 rfl rfl rfl (congrArg bo hb2)) <| x_lnA E50 (eX (ar v1.L) rfl) (k1 rfl rfl rfl (congrArg bo hb2)) <| x_ci (eX (.val (.int .i64 (v1.L.length : Int))) rfl) (eX (.val (.int .i64 0)) rfl) rfl (k1 rfl rfl rfl (congrArg bo hb2)) <| x_pf rfl hb2 (eB rfl) (k0 rfl) <| x_mv (eB rfl) (k0 rfl) <| lx_off rfl rfl (congrArg bo hb3) rfl <| lx_off rfl rfl (congrArg bo hb3) rfl <| lx_off rfl rfl (congrArg bo hb3) rfl <| lx_off rfl rfl (congrArg bo hb3) rfl <| lx_off rfl rfl (congrArg bo hb3) rfl <| x_pt rfl hb3 (eB rfl) (k0 rfl) <| lx_nil, ⟨rfl, trivial⟩⟩
      · replace hq := condF hb3 hq
        obtain ⟨v4, hv4, hq⟩ := bindE hq
        replace hq := Option.some.inj hq
        subst hq
        exact ⟨_, _, x_fp F69_1 (eP rfl) (k0 rfl) <| x_ld L4 (eP rfl) rfl (sX (bo v1.Ok) rfl) (k0 rfl) <| x_not (eB rfl) (k0 rfl) <| x_mv (eB rfl) (k0 rfl) <| x_fp F69_0 (eP rfl) (k1 rfl rfl rfl (congrArg bo hb2)) <| x_ld L50 (eP rfl) rfl (sX (ar v1.L) rfl) (k1 rfl rfl rfl (congrArg bo hb2)) <| x_lnA E50 (eX (ar v1.L) rfl) (k1 rfl rfl rfl (congrArg bo hb2)) <| x_ci (eX (.val (.int .i64 (v1.L.length : Int))) rfl) (eX (.val (.int .i64 0)) rfl) rfl (k1 rfl rfl rfl (congrArg bo hb2)) <| x_pf rfl hb2 (eB rfl) (k0 rfl) <| x_mv (eB rfl) (k0 rfl) <| x_fp F24_0 (eP rfl) (k1 rfl rfl rfl (congrArg bo hb3)) <| x_ld L9 (eP rfl) rfl (sX (tx p0.Dn) rfl) (k1 rfl rfl rfl (congrArg bo hb3)) <| x_pu (eF rfl) P37 (c_r1_Key p0.Dn v4 hv4) rfl (k1 rfl rfl rfl (congrArg bo hb3)) <| x_fd f72_1 (eG rfl) (sX (bo v4.Ok) rfl) (k1 rfl rfl rfl (congrArg bo hb3)) <| x_not (eB rfl) (k1 rfl rfl rfl (congrArg bo hb3)) <| x_pf rfl hb3 (eB rfl) (k0 rfl) <| lx_nil, ⟨rfl, trivial⟩⟩) ?_
  refine cw_cond rfl (fun hb6 => ?_) (fun hb6 => ?_)
  · replace h := condT hb6 h
    refine cw_seq (cw_rg hnt rfl (x_as (eI rfl) (k0 rfl) <| lx_nil) (cw_ret (cw_rc (cw_rn ?_))))
    cases h
    exact ⟨rfl, sub0⟩
  · replace h := condF hb6 h
    refine cw_skip (cw_seq (cw_seq (cw_rg hnt rfl (x_fp F24_1 (eP rfl) (k0 rfl) <| x_ld L22 (eP rfl) rfl (sX (ar p0.Attrs) rfl) (k0 rfl) <| x_lnA E22 (eX (ar p0.Attrs) rfl) (k0 rfl) <| x_ci (eX (.val (.int .i64 (p0.Attrs.length : Int))) rfl) (eX (.val (.int .i64 20)) rfl) rfl (k0 rfl) <| lx_nil) ?_)))
    refine cw_cond rfl (fun hb7 => ?_) (fun hb7 => ?_)
    · replace h := condT hb7 h
      refine cw_seq (cw_rg hnt rfl (x_as (eI rfl) (k0 rfl) <| lx_nil) (cw_ret (cw_rc (cw_rn ?_))))
      cases h
      exact ⟨rfl, sub0⟩
    · replace h := condF hb7 h
      refine cw_skip (cw_seq (cw_seq ?_))
      obtain ⟨v8, hv8, h⟩ := bindE h
      refine cw_rg hnt rfl (x_ld L24 (eP rfl) rfl (sX (.agg [tx p0.Dn, ar p0.Attrs]) rfl) (k0 rfl) <| x_pu (eF rfl) P38 (c_r1_attrs p0 v8 hv8) rfl (k0 rfl) <| x_as (eI rfl) (k0 rfl) <| lx_nil) (cw_seq (cw_rg hnt rfl (x_mv (eI rfl) (k0 rfl) <| x_ci (eX (.val (.int .i64 v8)) rfl) (eX (.val (.int .i64 0)) rfl) rfl (k0 rfl) <| lx_nil) ?_))
      refine cw_cond rfl (fun hb9 => ?_) (fun hb9 => ?_)
      · replace h := condT hb9 h
        refine cw_seq (cw_rg hnt rfl (x_mv (eI rfl) (k0 rfl) <| x_as (eI rfl) (k0 rfl) <| lx_nil) (cw_ret (cw_rc (cw_rn ?_))))
        cases h
        exact ⟨rfl, sub0⟩
      · replace h := condF hb9 h
        refine cw_skip (cw_seq (cw_seq ?_))
        obtain ⟨v10, hv10, h⟩ := bindE h
        refine cw_rg hnt rfl (x_ld L24 (eP rfl) rfl (sX (.agg [tx p0.Dn, ar p0.Attrs]) rfl) (k0 rfl) <| x_pu (eF rfl) P39 (c_r1_classes p0 v10 hv10) rfl (k0 rfl) <| x_not (eB rfl) (k0 rfl) <| lx_nil) ?_
        refine cw_cond rfl (fun hb11 => ?_) (fun hb11 => ?_)
        · replace h := condT hb11 h
          refine cw_seq (cw_rg hnt rfl (x_as (eI rfl) (k0 rfl) <| lx_nil) (cw_ret (cw_rc (cw_rn ?_))))
          cases h
          exact ⟨rfl, sub0⟩
        · replace h := condF hb11 h
          refine cw_skip (cw_seq (cw_seq ?_))
          obtain ⟨v12, hv12, h⟩ := bindE h
          obtain ⟨v13, hv13, h⟩ := bindE h
          obtain ⟨v14, hv14, h⟩ := bindE h
          refine cw_ra [] [] [] [11, 12] hnt rfl Tryz.mixed (by kernel_rfl) rfl (by decide) (x_ld L24 (eP rfl) rfl (sX (.agg [tx p0.Dn, ar p0.Attrs]) rfl) (k0 rfl) <| x_fp F69_0 (eP rfl) (k0 rfl) <| x_ld L50 (eP rfl) rfl (sX (ar v1.L) rfl) (k0 rfl) <| x_ia E50 rfl (eX (ar v1.L) rfl) rfl hv12 (k0 rfl) <| x_fq F49_0 (eQ rfl) (k0 rfl) <| x_ld L9 (eQ rfl) rfl (sX (tx v12.Typ) rfl) (k0 rfl) <| x_fp F69_0 (eP rfl) (k0 rfl) <| x_ld L50 (eP rfl) rfl (sX (ar v1.L) rfl) (k0 rfl) <| x_ia E50 rfl (eX (ar v1.L) rfl) rfl hv13 (k0 rfl) <| x_fq F49_1 (eQ rfl) (k0 rfl) <| x_ld L9 (eQ rfl) rfl (sX (tx v13.Val) rfl) (k0 rfl) <| x_pu (eF rfl) P40 (c_r1_Has p0 v12.Typ v13.Val v14 hv14) rfl (k0 rfl) <| x_not (eB rfl) (k0 rfl) <| lx_nil) ?_
          refine cw_cond rfl (fun hb15 => ?_) (fun hb15 => ?_)
          · replace h := condT hb15 h
            refine cw_seq (cw_rg hnt rfl (x_as (eI rfl) (k0 rfl) <| lx_nil) (cw_ret (cw_rc (cw_rn ?_))))
            cases h
            exact ⟨rfl, sub0⟩
          · replace h := condF hb15 h
            refine cw_skip (cw_seq (cw_rg hnt rfl (x_as (eI rfl) (k0 rfl) <| lx_nil) (cw_ret (cw_rn ?_))))
            cases h
            exact ⟨rfl, sub0⟩

theorem c_r1_Texts (p0 : List Str) (p1 : List Str) (r : Bool) (h : s_r1_Texts p0 p1 = some r) : Pu Tryz.prog 15 [ar p0, ar p1] (bo r) := by
  refine ⟨(nfc nfa (nfc nfa nfn)), nfv, fs_start _ _ Tryz.func15 rfl Tryz.ntmps15 Tryz.results15 rfl fun X hnt hn => ?_⟩
  rw [s_r1_Texts] at h
  refine cw_seq (cw_rg hnt rfl (x_as (eB rfl) (k0 rfl) <| lx_nil) (cw_seq (cw_seq (cw_rg hnt rfl (x_mv (eA rfl) (k0 rfl) <| x_lnA E27 (eX (ar p0) rfl) (k0 rfl) <| x_mv (eA rfl) (k0 rfl) <| x_lnA E27 (eX (ar p1) rfl) (k0 rfl) <| x_ci (eX (.val (.int .i64 (p0.length : Int))) rfl) (eX (.val (.int .i64 (p1.length : Int))) rfl) rfl (k0 rfl) <| lx_nil) ?_))))
  refine cw_cond rfl (fun hb1 => ?_) (fun hb1 => ?_)
  · replace h := condT hb1 h
    refine cw_seq (cw_rg hnt rfl (x_as (eB rfl) (k0 rfl) <| lx_nil) (cw_ret (cw_rc (cw_rn ?_))))
    cases h
    exact ⟨rfl, sub0⟩
  · replace h := condF hb1 h
    refine cw_skip (cw_seq (cw_seq (cw_rg hnt rfl (x_as (eI rfl) (k0 rfl) <| lx_nil) ?_)))
    refine cw_cut (fun st => r1_Texts_k1 = some r ∧ st = ⟨ls [], hl [], 11⟩) ?_ ?_
    · skip
      refine cw_block (cw_to (to_ren (N := 0) (n' := 7) (L := [(0, ar p0), (1, ar p1), (5, i64 0)]) (H := []) (id) [] [] hn rfl rfl rfl fix0 .nil ⟨tra, tra, trv, trivial⟩ trivial) ?_)
      refine cw_loop (fun g st => ∃ (v23 : Int), r1_Texts_l1 p0 p1 g v23 = some r ∧ st = ⟨ls [(0, ar p0), (1, ar p1), (5, i64 v23)], hl [], 7⟩) FUEL ⟨0, h, rfl⟩ ?_
      rintro g _ ⟨v23, h, rfl⟩
      rcases g with _ | g1
      · rw [r1_Texts_l1] at h; cases h
      rw [r1_Texts_l1] at h
      refine cw_seq (cw_seq (cw_rg hnt rfl (x_mv (eI rfl) (k0 rfl) <| x_mv (eA rfl) (k0 rfl) <| x_lnA E27 (eX (ar p0) rfl) (k0 rfl) <| x_ci (eX (.val (.int .i64 v23)) rfl) (eX (.val (.int .i64 (p0.length : Int))) rfl) rfl (k0 rfl) <| lx_nil) ?_))
      refine cw_cond rfl (fun hb29 => ?_) (fun hb29 => ?_)
      · replace h := condT hb29 h
        refine cw_skip (cw_seq (cw_block (cw_seq ?_)))
        obtain ⟨v30, hv30, h⟩ := bindE h
        obtain ⟨v31, hv31, h⟩ := bindE h
        refine cw_ra [] [] [] [8] hnt rfl Tryz.mixed (by kernel_rfl) rfl (by decide) (x_mv (eA rfl) (k0 rfl) <| x_mv (eI rfl) (k0 rfl) <| x_ia E27 rfl (eX (ar p0) rfl) rfl hv30 (k0 rfl) <| x_ld L9 (eQ rfl) rfl (sX (tx v30) rfl) (k0 rfl) <| x_mv (eA rfl) (k0 rfl) <| x_mv (eI rfl) (k0 rfl) <| x_ia E27 rfl (eX (ar p1) rfl) rfl hv31 (k0 rfl) <| x_ld L9 (eQ rfl) rfl (sX (tx v31) rfl) (k0 rfl) <| x_ct (eT rfl) (eT rfl) rfl (k0 rfl) <| lx_nil) ?_
        refine cw_cond rfl (fun hb32 => ?_) (fun hb32 => ?_)
        · replace h := condT hb32 h
          refine cw_seq (cw_rg hnt rfl (x_as (eB rfl) (k0 rfl) <| lx_nil) (cw_ret (cw_rb (cw_rc (cw_rt (cw_rb (cw_rt (cw_rc (cw_rn ?_)))))))))
          cases h
          exact ⟨rfl, sub0⟩
        · replace h := condF hb32 h
          refine cw_skip (cw_blk ?_)
          obtain ⟨v33, hv33, h⟩ := bindE h
          refine cw_rg hnt rfl (x_mv (eI rfl) (k0 rfl) <| x_ai (eI rfl) (eI rfl) hv33 (k0 rfl) <| x_as (eI rfl) (k0 rfl) <| lx_nil) (cw_nil ?_)
          exact ⟨g1, _, Nat.lt_succ_self _, (to_ren (N := 0) (n' := 7) (L := [(0, ar p0), (1, ar p1), (5, i64 v33)]) (H := []) (id) [] [] hn rfl rfl rfl fix0 .nil ⟨tra, tra, trv, trivial⟩ trivial), v33, h, rfl⟩
      · replace h := condF hb29 h
        refine cw_exit (cw_xc (cw_xt (cw_xb (cw_nil ?_))))
        exact ⟨_, (to_ren (N := 0) (n' := 11) (L := []) (H := []) (id) [] [] hn rfl rfl rfl fix0 .nil trivial trivial), h, rfl⟩
    · rintro _ ⟨h, rfl⟩
      rw [r1_Texts_k1] at h
      refine cw_seq (cw_rg hnt rfl (x_as (eB rfl) (k0 rfl) <| lx_nil) (cw_ret (cw_rn ?_)))
      cases h
      exact ⟨rfl, sub0⟩
end Go.Ka
