/- The program comes to what the plain functions say. -/
import Derived.Test.YtnbmjbpekblhbaaGreatDoorKaFa
import Derived.Test.YtnbmjbpekblhbaaGreatDoorKaBv
import Derived.Test.YtnbmjbpekblhbaaGreatDoorPL
import Derived.Test.YtnbmjbpekblhbaaGreatDoorLA
set_option linter.all false
namespace Go.Ka
open Go.Proofs Go.Ka.Tryz
open Enc (enc)
variable [Tab] [Tabs]
set_option maxRecDepth 100000

theorem c_internal_stringslite_Index (p0 : Str) (p1 : Str) (r : Int) (h : s_internal_stringslite_Index p0 p1 = some r) : Pu Tryz.prog 93 [tx p0, tx p1] (i64 r) := by
  refine ⟨(nfc nfv (nfc nfv nfn)), nfv, fs_start _ _ Tryz.func93 rfl Tryz.ntmps93 Tryz.results93 rfl fun X hnt hn => ?_⟩
  rw [s_internal_stringslite_Index] at h
  refine cw_seq (cw_rg hnt rfl (x_as (eI rfl) (k0 rfl) <| lx_nil) (cw_seq (cw_rg hnt rfl (x_mv (eT rfl) (k0 rfl) <| x_lnT T9 (eT rfl) (k0 rfl) <| x_as (eI rfl) (k0 rfl) <| lx_nil) (cw_seq (cw_block (cw_seq ?_))))))
  obtain ⟨v2, hq, h⟩ := bindE h
  refine cw_rl [(16, bo v2)] (D := [17, 18, 19, 20, 21, 22, 23, 16]) hnt rfl rfl (by
    rcases Bool.eq_false_or_eq_true (((p1.length : Int) == 0)) with hb1 | hb1
    · replace hq := condT hb1 hq
      replace hq := Option.some.inj hq
      subst hq
      exact ⟨_, _, x_mv (eI rfl) (k0 rfl) <| x_ci (eX (.val (.int .i64 (p1.length : Int))) rfl) (eX (.val (.int .i64 0)) rfl) rfl (k0 rfl) <| x_mv (eB rfl) (k0 rfl) <| lx_off rfl rfl (congrArg bo hb1) rfl <| lx_off rfl rfl (congrArg bo hb1) rfl <| lx_off rfl rfl (congrArg bo hb1) rfl <| x_pt rfl hb1 (eB rfl) (k0 rfl) <| x_as (eB rfl) (k0 rfl) <| lx_nil, ⟨rfl, trivial⟩⟩
    · replace hq := condF hb1 hq
      replace hq := Option.some.inj hq
      subst hq
      exact ⟨_, _, x_mv (eI rfl) (k0 rfl) <| x_ci (eX (.val (.int .i64 (p1.length : Int))) rfl) (eX (.val (.int .i64 0)) rfl) rfl (k0 rfl) <| x_mv (eB rfl) (k0 rfl) <| x_mv (eT rfl) (k1 rfl rfl rfl (congrArg bo hb1)) <| x_mv (eT rfl) (k1 rfl rfl rfl (congrArg bo hb1)) <| x_ct (eT rfl) (eT rfl) rfl (k1 rfl rfl rfl (congrArg bo hb1)) <| x_pf rfl hb1 (eB rfl) (k0 rfl) <| x_as (eB rfl) (k0 rfl) <| lx_nil, ⟨rfl, trivial⟩⟩) ?_
  refine cw_cond rfl (fun hb3 => ?_) (fun hb3 => ?_)
  · replace h := condT hb3 h
    refine cw_seq (cw_rg hnt rfl (x_as (eI rfl) (k0 rfl) <| lx_nil) (cw_ret (cw_rb (cw_rc (cw_rn ?_)))))
    cases h
    exact ⟨rfl, sub0⟩
  · replace h := condF hb3 h
    refine cw_seq (cw_rg hnt rfl (x_mv (eI rfl) (k0 rfl) <| x_ci (eX (.val (.int .i64 (p1.length : Int))) rfl) (eX (.val (.int .i64 1)) rfl) rfl (k0 rfl) <| x_as (eB rfl) (k0 rfl) <| lx_nil) ?_)
    refine cw_cond rfl (fun hb4 => ?_) (fun hb4 => ?_)
    · replace h := condT hb4 h
      refine cw_seq ?_
      obtain ⟨v5, hv5, h⟩ := bindE h
      obtain ⟨v6, hv6, h⟩ := bindE h
      refine cw_rg hnt rfl (x_mv (eT rfl) (k0 rfl) <| x_mv (eT rfl) (k0 rfl) <| x_ixT T9 (eT rfl) rfl hv5 (k0 rfl) <| x_pu (eF rfl) P121 (l_indexByteL p0 v5 v6 hv6) rfl (k0 rfl) <| x_as (eI rfl) (k0 rfl) <| lx_nil) (cw_ret (cw_rb (cw_rc (cw_rn ?_))))
      cases h
      exact ⟨rfl, sub0⟩
    · replace h := condF hb4 h
      refine cw_seq (cw_rg hnt rfl (x_mv (eI rfl) (k0 rfl) <| x_mv (eT rfl) (k0 rfl) <| x_lnT T9 (eT rfl) (k0 rfl) <| x_ci (eX (.val (.int .i64 (p1.length : Int))) rfl) (eX (.val (.int .i64 (p0.length : Int))) rfl) rfl (k0 rfl) <| x_as (eB rfl) (k0 rfl) <| lx_nil) ?_)
      refine cw_cond rfl (fun hb7 => ?_) (fun hb7 => ?_)
      · replace h := condT hb7 h
        refine cw_seq (cw_rg hnt rfl (x_as (eI rfl) (k0 rfl) <| lx_nil) (cw_ret (cw_rb (cw_rc (cw_rn ?_)))))
        cases h
        exact ⟨rfl, sub0⟩
      · replace h := condF hb7 h
        refine cw_seq ?_
        cases h

theorem c_internal_stringslite_Cut (p0 : Str) (p1 : Str) (r : Str × Str × Bool) (h : s_internal_stringslite_Cut p0 p1 = some r) : Pu Tryz.prog 74 [tx p0, tx p1] (.tup [tx r.1, tx r.2.1, bo r.2.2]) := by
  refine ⟨(nfc nfv (nfc nfv nfn)), (NF.tup (nfc nfv (nfc nfv (nfc nfv nfn)))), fs_start _ _ Tryz.func74 rfl Tryz.ntmps74 Tryz.results74 rfl fun X hnt hn => ?_⟩
  rw [s_internal_stringslite_Cut] at h
  refine cw_seq (cw_rg hnt rfl (x_as (eT rfl) (k0 rfl) <| x_as (eT rfl) (k0 rfl) <| x_as (eB rfl) (k0 rfl) <| lx_nil) (cw_seq (cw_seq ?_)))
  obtain ⟨v1, hv1, h⟩ := bindE h
  refine cw_rg hnt rfl (x_mv (eT rfl) (k0 rfl) <| x_mv (eT rfl) (k0 rfl) <| x_pu (eF rfl) P93 (c_internal_stringslite_Index p0 p1 v1 hv1) rfl (k0 rfl) <| x_as (eI rfl) (k0 rfl) <| lx_nil) (cw_seq (cw_rg hnt rfl (x_mv (eI rfl) (k0 rfl) <| x_ci (eX (.val (.int .i64 v1)) rfl) (eX (.val (.int .i64 0)) rfl) rfl (k0 rfl) <| lx_nil) ?_))
  refine cw_cond rfl (fun hb2 => ?_) (fun hb2 => ?_)
  · replace h := condT hb2 h
    refine cw_seq ?_
    obtain ⟨v3, hv3, h⟩ := bindE h
    obtain ⟨v4, hv4, h⟩ := bindE h
    obtain ⟨v5, hv5, h⟩ := bindE h
    refine cw_ra [] [] [] [10, 11] hnt rfl Tryz.mixed (by kernel_rfl) rfl (by decide) (x_mv (eT rfl) (k0 rfl) <| x_mv (eI rfl) (k0 rfl) <| x_slT T9 (eT rfl) rfl rfl hv3 (k0 rfl) <| x_mv (eT rfl) (k0 rfl) <| x_mv (eI rfl) (k0 rfl) <| x_mv (eT rfl) (k0 rfl) <| x_lnT T9 (eT rfl) (k0 rfl) <| x_ai (eI rfl) (eI rfl) hv4 (k0 rfl) <| x_slT T9 (eT rfl) rfl rfl hv5 (k0 rfl) <| x_as (eT rfl) (k0 rfl) <| x_as (eT rfl) (k0 rfl) <| x_as (eB rfl) (k0 rfl) <| lx_nil) (cw_ret (cw_rc (cw_rn ?_)))
    cases h
    exact ⟨rfl, sub0⟩
  · replace h := condF hb2 h
    refine cw_skip (cw_seq (cw_rg hnt rfl (x_mv (eT rfl) (k0 rfl) <| x_as (eT rfl) (k0 rfl) <| x_as (eT rfl) (k0 rfl) <| x_as (eB rfl) (k0 rfl) <| lx_nil) (cw_ret (cw_rn ?_))))
    cases h
    exact ⟨rfl, sub0⟩

theorem c_strings_Cut (p0 : Str) (p1 : Str) (r : Str × Str × Bool) (h : s_strings_Cut p0 p1 = some r) : Pu Tryz.prog 43 [tx p0, tx p1] (.tup [tx r.1, tx r.2.1, bo r.2.2]) := by
  refine ⟨(nfc nfv (nfc nfv nfn)), (NF.tup (nfc nfv (nfc nfv (nfc nfv nfn)))), fs_start _ _ Tryz.func43 rfl Tryz.ntmps43 Tryz.results43 rfl fun X hnt hn => ?_⟩
  rw [s_strings_Cut] at h
  refine cw_seq (cw_rg hnt rfl (x_as (eT rfl) (k0 rfl) <| x_as (eT rfl) (k0 rfl) <| x_as (eB rfl) (k0 rfl) <| lx_nil) (cw_seq ?_))
  obtain ⟨v1, hv1, h⟩ := bindE h
  refine cw_rg hnt rfl (x_mv (eT rfl) (k0 rfl) <| x_mv (eT rfl) (k0 rfl) <| x_pu (eF rfl) P74 (c_internal_stringslite_Cut p0 p1 v1 hv1) rfl (k0 rfl) <| x_ex (eW rfl) (sX (tx v1.1) rfl) (k0 rfl) <| x_ex (eW rfl) (sX (tx v1.2.1) rfl) (k0 rfl) <| x_ex (eW rfl) (sX (bo v1.2.2) rfl) (k0 rfl) <| x_as (eT rfl) (k0 rfl) <| x_as (eT rfl) (k0 rfl) <| x_as (eB rfl) (k0 rfl) <| lx_nil) (cw_ret (cw_rn ?_))
  cases h
  exact ⟨rfl, sub0⟩

theorem c_strings_Builder_WriteByte (p0 : Str) (p1 : UInt8) (r : Str × Bool) (h : s_strings_Builder_WriteByte p0 p1 = some r) {s k n : Nat} (hs : Nat.blt s n = true) (hk : Nat.blt k n = true) (hne : Nat.beq s k = false) : Fx Tryz.prog 80 [.ptr s 0 0, u8 p1] (hl [(s, bO s k p0.length 105 5), (k, ob p0)]) n (er r.2) [(s, some (bO s n r.1.length 105 5)), (k, none), (n, some (ob r.1))] := by
  refine fx_b (j := 12) (nfc nfv nfn) nfr (fs_start _ _ Tryz.func80 rfl Tryz.ntmps80 Tryz.results80 rfl fun X hnt hn => ?_) (by decide) hs hk hne
  rw [s_strings_Builder_WriteByte] at h
  refine cw_seq (cw_rg hnt rfl (x_as (eX _ rfl) (k0 rfl) <| lx_nil) (cw_seq (cw_rg hnt rfl (x_mv (eP rfl) (k0 rfl) <| x_fx (eF rfl) P103 (l_copyCheck (s := 0) (k := 1) (m := p0.length) (e := 5) (n := 4) rfl rfl) (subH ⟨rfl, trivial⟩) rfl (k0 rfl) <| lx_nil) (cw_seq ?_))))
  obtain ⟨v1, hv1, h⟩ := bindE h
  refine cw_rg hnt rfl (x_mv (eP rfl) (k0 rfl) <| x_mv (eP rfl) (k0 rfl) <| x_nc (eP rfl) (.inr ⟨_, _, _, rfl⟩) (k0 rfl) <| x_fp F105_1 (eP rfl) (k0 rfl) <| x_ld L38 (eP rfl) rfl (sX (.owt 1 p0.length 5) rfl) (k0 rfl) <| x_mv (eU p1 rfl) (k0 rfl) <| x_bsA ([p1] : Str) E38 rfl rfl (k0 rfl) <| x_apT (l1 := p0) g38.1 g38.2.1 g38.2.2.1 g38.2.2.2 rfl rfl (vlA' (l := ([p1] : Str)) rfl rfl) hv1 rfl (k0 rfl) <| x_nc (eP rfl) (.inr ⟨_, _, _, rfl⟩) (k0 rfl) <| x_fp F105_1 (eP rfl) (k0 rfl) <| x_st L38 (eP rfl) rfl rfl rfl rfl (k0 rfl) <| lx_nil) (cw_seq (cw_rg hnt rfl (x_as (eX _ rfl) (k0 rfl) <| lx_nil) (cw_ret (cw_rn ?_))))
  cases h
  exact ⟨rfl, subB rfl rfl⟩

theorem c_strings_Builder_Write (p0 : Str) (p1 : Str) (r : Str × Int × Bool) (h : s_strings_Builder_Write p0 p1 = some r) {s k n : Nat} (hs : Nat.blt s n = true) (hk : Nat.blt k n = true) (hne : Nat.beq s k = false) : Fx Tryz.prog 82 [.ptr s 0 0, ar p1] (hl [(s, bO s k p0.length 105 5), (k, ob p0)]) n (.tup [i64 r.2.1, er r.2.2]) [(s, some (bO s n r.1.length 105 5)), (k, none), (n, some (ob r.1))] := by
  refine fx_b (j := 12) (nfc nfa nfn) (NF.tup (nfc nfv (nfc nfr nfn))) (fs_start _ _ Tryz.func82 rfl Tryz.ntmps82 Tryz.results82 rfl fun X hnt hn => ?_) (by decide) hs hk hne
  rw [s_strings_Builder_Write] at h
  refine cw_seq (cw_rg hnt rfl (x_as (eI rfl) (k0 rfl) <| x_as (eX _ rfl) (k0 rfl) <| lx_nil) (cw_seq (cw_rg hnt rfl (x_mv (eP rfl) (k0 rfl) <| x_fx (eF rfl) P103 (l_copyCheck (s := 0) (k := 1) (m := p0.length) (e := 5) (n := 5) rfl rfl) (subH ⟨rfl, trivial⟩) rfl (k0 rfl) <| lx_nil) (cw_seq ?_))))
  obtain ⟨v1, hv1, h⟩ := bindE h
  refine cw_rg hnt rfl (x_mv (eP rfl) (k0 rfl) <| x_mv (eP rfl) (k0 rfl) <| x_nc (eP rfl) (.inr ⟨_, _, _, rfl⟩) (k0 rfl) <| x_fp F105_1 (eP rfl) (k0 rfl) <| x_ld L38 (eP rfl) rfl (sX (.owt 1 p0.length 5) rfl) (k0 rfl) <| x_mv (eA rfl) (k0 rfl) <| x_apT (l1 := p0) g38.1 g38.2.1 g38.2.2.1 g38.2.2.2 rfl rfl (vlA' (l := (p1 : Str)) rfl rfl) hv1 rfl (k0 rfl) <| x_nc (eP rfl) (.inr ⟨_, _, _, rfl⟩) (k0 rfl) <| x_fp F105_1 (eP rfl) (k0 rfl) <| x_st L38 (eP rfl) rfl rfl rfl rfl (k0 rfl) <| lx_nil) (cw_seq (cw_rg hnt rfl (x_mv (eA rfl) (k0 rfl) <| x_lnA E38 (eX (ar p1) rfl) (k0 rfl) <| x_as (eI rfl) (k0 rfl) <| x_as (eX _ rfl) (k0 rfl) <| lx_nil) (cw_ret (cw_rn ?_))))
  cases h
  exact ⟨rfl, subB rfl rfl⟩

theorem c_strings_Builder_WriteString (p0 : Str) (p1 : Str) (r : Str × Int × Bool) (h : s_strings_Builder_WriteString p0 p1 = some r) {s k n : Nat} (hs : Nat.blt s n = true) (hk : Nat.blt k n = true) (hne : Nat.beq s k = false) : Fx Tryz.prog 81 [.ptr s 0 0, tx p1] (hl [(s, bO s k p0.length 105 5), (k, ob p0)]) n (.tup [i64 r.2.1, er r.2.2]) [(s, some (bO s n r.1.length 105 5)), (k, none), (n, some (ob r.1))] := by
  refine fx_b (j := 12) (nfc nfv nfn) (NF.tup (nfc nfv (nfc nfr nfn))) (fs_start _ _ Tryz.func81 rfl Tryz.ntmps81 Tryz.results81 rfl fun X hnt hn => ?_) (by decide) hs hk hne
  rw [s_strings_Builder_WriteString] at h
  refine cw_seq (cw_rg hnt rfl (x_as (eI rfl) (k0 rfl) <| x_as (eX _ rfl) (k0 rfl) <| lx_nil) (cw_seq (cw_rg hnt rfl (x_mv (eP rfl) (k0 rfl) <| x_fx (eF rfl) P103 (l_copyCheck (s := 0) (k := 1) (m := p0.length) (e := 5) (n := 5) rfl rfl) (subH ⟨rfl, trivial⟩) rfl (k0 rfl) <| lx_nil) (cw_seq ?_))))
  obtain ⟨v1, hv1, h⟩ := bindE h
  refine cw_rg hnt rfl (x_mv (eP rfl) (k0 rfl) <| x_mv (eP rfl) (k0 rfl) <| x_nc (eP rfl) (.inr ⟨_, _, _, rfl⟩) (k0 rfl) <| x_fp F105_1 (eP rfl) (k0 rfl) <| x_ld L38 (eP rfl) rfl (sX (.owt 1 p0.length 5) rfl) (k0 rfl) <| x_mv (eT rfl) (k0 rfl) <| x_apTS (l1 := p0) g38.1 g38.2.1 g38.2.2.1 g38.2.2.2 T9 rfl rfl (eT rfl) hv1 rfl (k0 rfl) <| x_nc (eP rfl) (.inr ⟨_, _, _, rfl⟩) (k0 rfl) <| x_fp F105_1 (eP rfl) (k0 rfl) <| x_st L38 (eP rfl) rfl rfl rfl rfl (k0 rfl) <| lx_nil) (cw_seq (cw_rg hnt rfl (x_mv (eT rfl) (k0 rfl) <| x_lnT T9 (eT rfl) (k0 rfl) <| x_as (eI rfl) (k0 rfl) <| x_as (eX _ rfl) (k0 rfl) <| lx_nil) (cw_ret (cw_rn ?_))))
  cases h
  exact ⟨rfl, subB rfl rfl⟩

theorem c_strings_Builder_String (p0 : Str) (r : Str) (h : s_strings_Builder_String p0 = some r) {s k n : Nat} (hs : Nat.blt s n = true) (hk : Nat.blt k n = true) (hne : Nat.beq s k = false) : Fx Tryz.prog 83 [.ptr s 0 0] (hl [(s, bO s k p0.length 105 5), (k, ob p0)]) n (tx r) [(s, none), (k, none)] := by
  refine fx_bs nfn nfv (fs_start _ _ Tryz.func83 rfl Tryz.ntmps83 Tryz.results83 rfl fun X hnt hn => ?_) hs hk hne
  rw [s_strings_Builder_String] at h
  refine cw_seq (cw_rg hnt rfl (x_as (eT rfl) (k0 rfl) <| lx_nil) (cw_seq ?_))
  obtain ⟨v1, hv1, h⟩ := bindE h
  refine cw_ra [1] [] [] [10, 11] hnt rfl Tryz.mixed (by kernel_rfl) rfl (by decide) (x_mv (eP rfl) (k0 rfl) <| x_nc (eP rfl) (.inr ⟨_, _, _, rfl⟩) (k0 rfl) <| x_fp F105_1 (eP rfl) (k0 rfl) <| x_ld L38 (eP rfl) rfl (sX (.owt 1 p0.length 5) rfl) (k0 rfl) <| x_sd D136 rfl rfl (k0 rfl) <| x_mv (eP rfl) (k0 rfl) <| x_nc (eP rfl) (.inr ⟨_, _, _, rfl⟩) (k0 rfl) <| x_fp F105_1 (eP rfl) (k0 rfl) <| x_ld L38 (eP rfl) rfl (sX (.owt 1 p0.length 5) rfl) (k0 rfl) <| x_ln (n := p0.length) E38 rfl (k0 rfl) <| x_us (l := p0) D136 c5 rfl (lenO_le hv1) rfl rfl rfl (k0 rfl) <| x_as (eT rfl) (k0 rfl) <| lx_nil) (cw_ret (cw_rn ?_))
  cases h
  exact ⟨rfl, subR⟩
end Go.Ka
