/- The plain functions. -/
import Derived.Test.YtnbmjbpekblhbaaGreatDoorKaSt
import Derived.Test.YtnbmjbpekblhbaaGreatDoorKaLp
import Derived.Test.YtnbmjbpekblhbaaGreatDoorPL
set_option linter.all false
namespace Go.Ka
def s_r1_Classes : Option (List T_Class) := some [(⟨k_top, [], false, [k_objectclass], []⟩ : T_Class), (⟨k_organization, k_top, true, [k_o], [k_description]⟩ : T_Class), (⟨k_organizationalunit, k_top, true, [k_ou], [k_description]⟩ : T_Class), (⟨k_person, k_top, true, [k_cn, k_sn], [k_description, k_userpassword]⟩ : T_Class), (⟨k_inetorgperson, k_person, true, [], [k_uid, k_mail]⟩ : T_Class), (⟨k_posix, k_top, false, [k_uid, k_uidnumber], []⟩ : T_Class), (⟨k_groupofnames, k_top, true, [k_cn, k_member], [k_description]⟩ : T_Class)]
def r1_Lower_k1 (v34 : Str) : Option Str := some v34
def r1_Lower_l1 : Nat → Int → Str → Option Str
  | 0, _, _ => none
  | g + 1, v46, v45 => bif (decide (v46 < (v45.length : Int))) then ((lgetO v45 v46).bind fun v58 => bif (decide (65 ≤ v58)) then (lgetO v45 v46).bind fun v60 => some (decide (v60 ≤ 90)) else some false).bind fun v61 => bif v61 then (lgetO v45 v46).bind fun v63 => (lgetO v45 v46).bind fun v64 => (addO v46 1).bind fun v65 => (r1_Lower_l1 g) v65 (v45.set v46.toNat (v63 + 32)) else (addO v46 1).bind fun v66 => (r1_Lower_l1 g) v66 v45 else r1_Lower_k1 v45
def s_r1_Lower (p0 : Str) : Option Str := (bytO p0).bind fun v1 => r1_Lower_l1 FUEL 0 v1
def r1_FindClass_k1 : Option T_R1Class := some (⟨(⟨[], [], false, [], []⟩ : T_Class), false⟩ : T_R1Class)
def r1_FindClass_l1 (p0 : Str) (v1 : List T_Class) : Nat → Int → Option T_R1Class
  | 0, _ => none
  | g + 1, v27 => bif (decide (v27 < (v1.length : Int))) then (lgetO v1 v27).bind fun v35 => (s_r1_Lower p0).bind fun v36 => bif (v35.Name == v36) then (lgetO v1 v27).bind fun v38 => some (⟨v38, true⟩ : T_R1Class) else (addO v27 1).bind fun v39 => (r1_FindClass_l1 p0 v1 g) v39 else r1_FindClass_k1
def s_r1_FindClass (p0 : Str) : Option T_R1Class := (s_r1_Classes).bind fun v1 => r1_FindClass_l1 p0 v1 FUEL 0
def r1_cut_k1 (p0 : Str) (v38 : Int) (v37 : List Str) : Option (List Str) := (lsubO p0 v38 p0.length).bind fun v39 => (appO 16 v37 ([v39] : List Str)).bind fun v40 => some v40
def r1_cut_l1 (p0 : Str) : Nat → Int → Int → List Str → Option (List Str)
  | 0, _, _, _ => none
  | g + 1, v54, v52, v53 => bif (decide (v52 < (p0.length : Int))) then (lgetO p0 v52).bind fun v67 => bif (v67 == 92) then (addO v52 1).bind fun v69 => (addO v69 1).bind fun v70 => (r1_cut_l1 p0 g) v54 v70 v53 else bif (v67 == 44) then (lsubO p0 v54 v52).bind fun v72 => (appO 16 v53 ([v72] : List Str)).bind fun v73 => (addO v52 1).bind fun v74 => (addO v52 1).bind fun v75 => (r1_cut_l1 p0 g) v74 v75 v73 else (addO v52 1).bind fun v76 => (r1_cut_l1 p0 g) v54 v76 v53 else r1_cut_k1 p0 v54 v53
def s_r1_cut (p0 : Str) : Option (List Str) := r1_cut_l1 p0 FUEL 0 0 []
def s_r1_hex (p0 : UInt8) : Option Int := (bif (decide (48 ≤ p0)) then some (decide (p0 ≤ 57)) else some false).bind fun v2 => bif v2 then some ((p0 - 48).toNat : Int) else (bif (decide (97 ≤ p0)) then some (decide (p0 ≤ 102)) else some false).bind fun v5 => bif v5 then (addO ((p0 - 97).toNat : Int) 10).bind fun v7 => some v7 else (bif (decide (65 ≤ p0)) then some (decide (p0 ≤ 70)) else some false).bind fun v9 => bif v9 then (addO ((p0 - 65).toNat : Int) 10).bind fun v11 => some v11 else some (-1)
def r1_in_k1 : Option Bool := some false
def r1_in_l1 (p0 : Str) (p1 : UInt8) : Nat → Int → Option Bool
  | 0, _ => none
  | g + 1, v18 => bif (decide (v18 < (p0.length : Int))) then (lgetO p0 v18).bind fun v24 => bif (v24 == p1) then some true else (addO v18 1).bind fun v26 => (r1_in_l1 p0 p1 g) v26 else r1_in_k1
def s_r1_in (p0 : Str) (p1 : UInt8) : Option Bool := r1_in_l1 p0 p1 FUEL 0
def r1_value_k1 (v159 : Str) : Option (Str × Bool) := some (v159, true)
def r1_value_l1 (p0 : Str) : Nat → Int → Str → Option (Str × Bool)
  | 0, _, _ => none
  | g + 1, v213, v212 => bif (decide (v213 < (p0.length : Int))) then (lgetO p0 v213).bind fun v267 => bif (v267 == 92) then ((addO v213 2).bind fun v269 => bif (decide (v269 < (p0.length : Int))) then (addO v213 1).bind fun v271 => (lgetO p0 v271).bind fun v272 => (s_r1_hex v272).bind fun v273 => bif (decide (v273 ≥ 0)) then (addO v213 2).bind fun v275 => (lgetO p0 v275).bind fun v276 => (s_r1_hex v276).bind fun v277 => some (decide (v277 ≥ 0)) else some false else some false).bind fun v278 => bif v278 then (addO v213 1).bind fun v280 => (lgetO p0 v280).bind fun v281 => (s_r1_hex v281).bind fun v282 => (mulO v282 16).bind fun v283 => (addO v213 2).bind fun v284 => (lgetO p0 v284).bind fun v285 => (s_r1_hex v285).bind fun v286 => (addO v283 v286).bind fun v287 => (appO 1 v212 ([(toU8 v287)] : Str)).bind fun v288 => (addO v213 2).bind fun v289 => (addO v289 1).bind fun v290 => (r1_value_l1 p0 g) v290 v288 else ((addO v213 1).bind fun v291 => bif (decide (v291 ≥ (p0.length : Int))) then some true else (addO v213 1).bind fun v293 => (lgetO p0 v293).bind fun v294 => (s_r1_in k_x2c2b225c3c3e3b3d2320 v294).bind fun v295 => some (!v295)).bind fun v296 => bif v296 then some ([], false) else (addO v213 1).bind fun v298 => (lgetO p0 v298).bind fun v299 => (appO 1 v212 ([v299] : Str)).bind fun v300 => (addO v213 1).bind fun v301 => (addO v301 1).bind fun v302 => (r1_value_l1 p0 g) v302 v300 else (bif (decide (v267 < 32)) then some true else bif (decide (126 < v267)) then some true else (s_r1_in k_x2c2b223c3e3b v267).bind fun v305 => bif v305 then some true else bif (v213 == 0) then bif (v267 == 35) then some true else bif (v267 == 32) then some true else (subO (p0.length : Int) 1).bind fun v310 => bif (v213 == v310) then some (v267 == 32) else some false else (subO (p0.length : Int) 1).bind fun v312 => bif (v213 == v312) then some (v267 == 32) else some false).bind fun v314 => bif v314 then some ([], false) else (appO 1 v212 ([v267] : Str)).bind fun v316 => (addO v213 1).bind fun v317 => (r1_value_l1 p0 g) v317 v316 else r1_value_k1 v212
def s_r1_value (p0 : Str) : Option (Str × Bool) := r1_value_l1 p0 FUEL 0 []
def s_r1_letter (p0 : UInt8) : Option Bool := (bif (decide (97 ≤ p0)) then bif (decide (p0 ≤ 122)) then some true else bif (decide (65 ≤ p0)) then some (decide (p0 ≤ 90)) else some false else bif (decide (65 ≤ p0)) then some (decide (p0 ≤ 90)) else some false).bind fun v5 => some v5
def r1_MayType_k1 : Option Bool := some true
def r1_MayType_l1 (p0 : Str) : Nat → Int → Option Bool
  | 0, _ => none
  | g + 1, v60 => bif (decide (v60 < (p0.length : Int))) then ((lgetO p0 v60).bind fun v75 => (s_r1_letter v75).bind fun v76 => bif (!v76) then (lgetO p0 v60).bind fun v78 => bif (decide (v78 < 48)) then (lgetO p0 v60).bind fun v80 => some (v80 != 45) else (lgetO p0 v60).bind fun v81 => bif (decide (57 < v81)) then (lgetO p0 v60).bind fun v83 => some (v83 != 45) else some false else some false).bind fun v84 => bif v84 then some false else (addO v60 1).bind fun v86 => (r1_MayType_l1 p0 g) v86 else r1_MayType_k1
def s_r1_MayType (p0 : Str) : Option Bool := (bif (p0 == []) then some true else bif (decide ((p0.length : Int) > 30)) then some true else (lgetO p0 0).bind fun v3 => (s_r1_letter v3).bind fun v4 => some (!v4)).bind fun v5 => bif v5 then some false else r1_MayType_l1 p0 FUEL 0
def r1_MayDn_k1 (p0 : List T_Rdn) : Option Bool := some (decide ((p0.length : Int) ≤ 8))
def r1_MayDn_l1 (p0 : List T_Rdn) : Nat → Int → Option Bool
  | 0, _ => none
  | g + 1, v42 => bif (decide (v42 < (p0.length : Int))) then ((lgetO p0 v42).bind fun v54 => (s_r1_MayType v54.Typ).bind fun v55 => bif (!v55) then some true else (lgetO p0 v42).bind fun v57 => bif (v57.Val == []) then some true else (lgetO p0 v42).bind fun v59 => some (decide ((v59.Val.length : Int) > 100))).bind fun v60 => bif v60 then some false else (addO v42 1).bind fun v62 => (r1_MayDn_l1 p0 g) v62 else r1_MayDn_k1 p0
def s_r1_MayDn (p0 : List T_Rdn) : Option Bool := r1_MayDn_l1 p0 FUEL 0
def r1_ParseDn_k1 (v344 : List T_Rdn) : Option T_R1Dn := (s_r1_MayDn v344).bind fun v345 => bif (!v345) then some (⟨[], false⟩ : T_R1Dn) else some (⟨v344, true⟩ : T_R1Dn)
def r1_ParseDn_k2 (v461 : Int) (K1 : Int → List T_Rdn → Option T_R1Dn) (v631 : List T_Rdn) : Option T_R1Dn := (addO v461 1).bind fun v632 => K1 v632 v631
def r1_ParseDn_k3 (v2 : List Str) (v460 : List T_Rdn) (v461 : Int) (K1 : Int → List T_Rdn → Option T_R1Dn) (v655 : Int) : Option T_R1Dn := (lgetO v2 v461).bind fun v656 => bif (v655 == (v656.length : Int)) then some (⟨[], false⟩ : T_R1Dn) else (lgetO v2 v461).bind fun v658 => (addO v655 1).bind fun v659 => (lsubO v658 v659 v658.length).bind fun v660 => (s_r1_value v660).bind fun v661 => bif (!v661.2) then some (⟨[], false⟩ : T_R1Dn) else (lgetO v2 v461).bind fun v663 => (lsubO v663 0 v655).bind fun v664 => (appO 32 v460 ([(⟨v664, v661.1⟩ : T_Rdn)] : List T_Rdn)).bind fun v665 => r1_ParseDn_k2 v461 K1 v665
def r1_ParseDn_l2 (v2 : List Str) (v460 : List T_Rdn) (v461 : Int) (K1 : Int → List T_Rdn → Option T_R1Dn) : Nat → Int → Option T_R1Dn
  | 0, _ => none
  | g + 1, v673 => ((lgetO v2 v461).bind fun v681 => bif (decide (v673 < (v681.length : Int))) then (lgetO v2 v461).bind fun v683 => (lgetO v683 v673).bind fun v684 => some (v684 != 61) else some false).bind fun v685 => bif v685 then (addO v673 1).bind fun v687 => (r1_ParseDn_l2 v2 v460 v461 K1 g) v687 else r1_ParseDn_k3 v2 v460 v461 K1 v673
def r1_ParseDn_l1 (v2 : List Str) : Nat → Int → List T_Rdn → Option T_R1Dn
  | 0, _, _ => none
  | g + 1, v461, v460 => bif (decide (v461 < (v2.length : Int))) then r1_ParseDn_l2 v2 v460 v461 (r1_ParseDn_l1 v2 g) FUEL 0 else r1_ParseDn_k1 v460
def s_r1_ParseDn (p0 : Str) : Option T_R1Dn := bif (p0 == []) then some (⟨[], true⟩ : T_R1Dn) else (s_r1_cut p0).bind fun v2 => r1_ParseDn_l1 v2 FUEL 0 []
def r1_Fold_k1 (v41 : Str) : Option Str := some v41
def r1_Fold_l1 (v1 : Str) : Nat → Str → Bool → Int → Option Str
  | 0, _, _, _ => none
  | g + 1, v52, v50, v51 => bif (decide (v51 < (v1.length : Int))) then (lgetO v1 v51).bind fun v68 => bif (v68 == 32) then (addO v51 1).bind fun v70 => (r1_Fold_l1 v1 g) v52 (!(v52 == [])) v70 else bif v50 then (catO v52 k_x20).bind fun v72 => (addO v51 1).bind fun v73 => (lsubO v1 v51 v73).bind fun v74 => (catO v72 v74).bind fun v75 => (addO v51 1).bind fun v76 => (r1_Fold_l1 v1 g) v75 false v76 else (addO v51 1).bind fun v77 => (lsubO v1 v51 v77).bind fun v78 => (catO v52 v78).bind fun v79 => (addO v51 1).bind fun v80 => (r1_Fold_l1 v1 g) v79 v50 v80 else r1_Fold_k1 v52
def s_r1_Fold (p0 : Str) : Option Str := (s_r1_Lower p0).bind fun v1 => r1_Fold_l1 v1 FUEL [] false 0
def s_r1_two (p0 : UInt8) : Option Str := (arU .quo p0 16).bind fun v1 => (arU .quo p0 16).bind fun v2 => (lsubO k_0123456789abcdef (v1.toNat : Int) ((v2 + 1).toNat : Int)).bind fun v3 => (catO k_x5c v3).bind fun v4 => (arU .rem p0 16).bind fun v5 => (arU .rem p0 16).bind fun v6 => (lsubO k_0123456789abcdef (v5.toNat : Int) ((v6 + 1).toNat : Int)).bind fun v7 => (catO v4 v7).bind fun v8 => some v8
def r1_escaped_k1 (v87 : Str) : Option Str := some v87
def r1_escaped_l1 (p0 : Str) : Nat → Str → Int → Option Str
  | 0, _, _ => none
  | g + 1, v116, v117 => bif (decide (v117 < (p0.length : Int))) then (lgetO p0 v117).bind fun v147 => (bif (decide (v147 < 32)) then some true else some (decide (126 < v147))).bind fun v149 => bif v149 then (s_r1_two v147).bind fun v151 => (catO v116 v151).bind fun v152 => (addO v117 1).bind fun v153 => (r1_escaped_l1 p0 g) v152 v153 else ((s_r1_in k_x2c2b225c3c3e3b v147).bind fun v154 => bif v154 then some true else bif (v117 == 0) then bif (v147 == 35) then some true else bif (v147 == 32) then some true else (subO (p0.length : Int) 1).bind fun v159 => bif (v117 == v159) then some (v147 == 32) else some false else (subO (p0.length : Int) 1).bind fun v161 => bif (v117 == v161) then some (v147 == 32) else some false).bind fun v163 => bif v163 then (catO v116 k_x5c).bind fun v165 => (addO v117 1).bind fun v166 => (lsubO p0 v117 v166).bind fun v167 => (catO v165 v167).bind fun v168 => (addO v117 1).bind fun v169 => (r1_escaped_l1 p0 g) v168 v169 else (addO v117 1).bind fun v170 => (lsubO p0 v117 v170).bind fun v171 => (catO v116 v171).bind fun v172 => (addO v117 1).bind fun v173 => (r1_escaped_l1 p0 g) v172 v173 else r1_escaped_k1 v116
def s_r1_escaped (p0 : Str) : Option Str := r1_escaped_l1 p0 FUEL [] 0
def r1_TextDn_k1 (v42 : Str) : Option Str := some v42
def r1_TextDn_k2 (p0 : List T_Rdn) (v57 : Int) (K1 : Str → Int → Option Str) (v74 : Str) : Option Str := (lgetO p0 v57).bind fun v75 => (catO v74 v75.Typ).bind fun v76 => (catO v76 k_x3d).bind fun v77 => (lgetO p0 v57).bind fun v78 => (s_r1_escaped v78.Val).bind fun v79 => (catO v77 v79).bind fun v80 => (addO v57 1).bind fun v81 => K1 v80 v81
def r1_TextDn_l1 (p0 : List T_Rdn) : Nat → Str → Int → Option Str
  | 0, _, _ => none
  | g + 1, v56, v57 => bif (decide (v57 < (p0.length : Int))) then bif (decide (v57 > 0)) then (catO v56 k_x2c).bind fun v83 => r1_TextDn_k2 p0 v57 (r1_TextDn_l1 p0 g) v83 else r1_TextDn_k2 p0 v57 (r1_TextDn_l1 p0 g) v56 else r1_TextDn_k1 v56
def s_r1_TextDn (p0 : List T_Rdn) : Option Str := r1_TextDn_l1 p0 FUEL [] 0
def r1_Key_k1 (v29 : List T_Rdn) : Option T_R1Said := (s_r1_TextDn v29).bind fun v30 => some (⟨v30, true⟩ : T_R1Said)
def r1_Key_l1 (v1 : T_R1Dn) : Nat → Int → List T_Rdn → Option T_R1Said
  | 0, _, _ => none
  | g + 1, v40, v39 => bif (decide (v40 < (v1.L.length : Int))) then (lgetO v1.L v40).bind fun v50 => (s_r1_Lower v50.Typ).bind fun v51 => (lgetO v1.L v40).bind fun v52 => (s_r1_Fold v52.Val).bind fun v53 => bif (v53 == []) then some (⟨[], false⟩ : T_R1Said) else (appO 32 v39 ([(⟨v51, v53⟩ : T_Rdn)] : List T_Rdn)).bind fun v55 => (addO v40 1).bind fun v56 => (r1_Key_l1 v1 g) v56 v55 else r1_Key_k1 v39
def s_r1_Key (p0 : Str) : Option T_R1Said := (s_r1_ParseDn p0).bind fun v1 => bif (!v1.Ok) then some (⟨[], false⟩ : T_R1Said) else r1_Key_l1 v1 FUEL 0 []
def s_r1_Rule (p0 : Str) : Option Int := (s_r1_Lower p0).bind fun v1 => bif (v1 == k_objectclass) then some 1 else bif (v1 == k_cn) then some 1 else bif (v1 == k_sn) then some 1 else bif (v1 == k_o) then some 1 else bif (v1 == k_ou) then some 1 else bif (v1 == k_uid) then some 1 else bif (v1 == k_mail) then some 1 else bif (v1 == k_description) then some 1 else bif (v1 == k_uidnumber) then some 2 else bif (v1 == k_member) then some 3 else bif (v1 == k_userpassword) then some 4 else some 0
def r1_attr_k1 : Option Int := some (-1)
def r1_attr_l1 (p0 : T_Entry) (p1 : Str) : Nat → Int → Option Int
  | 0, _ => none
  | g + 1, v26 => bif (decide (v26 < (p0.Attrs.length : Int))) then (lgetO p0.Attrs v26).bind fun v34 => (s_r1_Lower v34.Typ).bind fun v35 => (s_r1_Lower p1).bind fun v36 => bif (v35 == v36) then some v26 else (addO v26 1).bind fun v38 => (r1_attr_l1 p0 p1 g) v38 else r1_attr_k1
def s_r1_attr (p0 : T_Entry) (p1 : Str) : Option Int := r1_attr_l1 p0 p1 FUEL 0
def r1_Digits_k2 (p0 : Int) (v19 : Int) (v20 : Str) : Option Str := (arZ .add .u64 48 v19).bind fun v21 => (catO [(toU8 v21)] v20).bind fun v22 => bif (decide (p0 < 0)) then (catO k_x2d v22).bind fun v24 => some v24 else some v22
def r1_Digits_l1 (p0 : Int) : Nat → Int → Str → Option Str
  | 0, _, _ => none
  | g + 1, v30, v31 => bif (decide (v30 ≥ 10)) then (arZ .rem .u64 v30 10).bind fun v38 => (arZ .add .u64 48 v38).bind fun v39 => (catO [(toU8 v39)] v31).bind fun v40 => (arZ .quo .u64 v30 10).bind fun v41 => (r1_Digits_l1 p0 g) v41 v40 else r1_Digits_k2 p0 v30 v31
def r1_Digits_k1 (p0 : Int) (v1 : Int) : Option Str := r1_Digits_l1 p0 FUEL v1 []
def s_r1_Digits (p0 : Int) : Option Str := bif (decide (p0 < 0)) then r1_Digits_k1 p0 (IntKind.wrap .u64 (0 - (IntKind.wrap .u64 p0))) else r1_Digits_k1 p0 (IntKind.wrap .u64 p0)
def r1_Number_k2 (p0 : Str) (v4 : Int) (v41 : Int) : Option T_R1Num := bif (v4 == 1) then (s_r1_Digits (IntKind.wrap .i64 (0 - v41))).bind fun v43 => bif (!(v43 == p0)) then some (⟨0, false⟩ : T_R1Num) else some (⟨(IntKind.wrap .i64 (0 - v41)), true⟩ : T_R1Num) else (s_r1_Digits v41).bind fun v45 => bif (!(v45 == p0)) then some (⟨0, false⟩ : T_R1Num) else some (⟨v41, true⟩ : T_R1Num)
def r1_Number_l1 (p0 : Str) (v4 : Int) : Nat → Int → Int → Option T_R1Num
  | 0, _, _ => none
  | g + 1, v57, v58 => bif (decide (v58 < (p0.length : Int))) then ((lgetO p0 v58).bind fun v70 => bif (decide (v70 < 48)) then some true else (lgetO p0 v58).bind fun v72 => some (decide (57 < v72))).bind fun v73 => bif v73 then some (⟨0, false⟩ : T_R1Num) else (mulO v57 10).bind fun v75 => (lgetO p0 v58).bind fun v76 => (addO v75 ((v76 - 48).toNat : Int)).bind fun v77 => (addO v58 1).bind fun v78 => (r1_Number_l1 p0 v4 g) v77 v78 else r1_Number_k2 p0 v4 v57
def r1_Number_k1 (p0 : Str) (v4 : Int) : Option T_R1Num := (bif ((p0.length : Int) == v4) then some true else (subO (p0.length : Int) v4).bind fun v6 => some (decide (v6 > 15))).bind fun v7 => bif v7 then some (⟨0, false⟩ : T_R1Num) else r1_Number_l1 p0 v4 FUEL 0 v4
def s_r1_Number (p0 : Str) : Option T_R1Num := (bif (!(p0 == [])) then (lgetO p0 0).bind fun v2 => some (v2 == 45) else some false).bind fun v3 => bif v3 then r1_Number_k1 p0 1 else r1_Number_k1 p0 0
def s_r1_Norm (p0 : Str) (p1 : Str) : Option T_R1Said := (bif (p1 == []) then some true else some (decide ((p1.length : Int) > 100))).bind fun v2 => bif v2 then some (⟨[], false⟩ : T_R1Said) else (s_r1_Rule p0).bind fun v4 => bif (v4 == 1) then (s_r1_Fold p1).bind fun v6 => some (⟨v6, (!(v6 == []))⟩ : T_R1Said) else bif (v4 == 2) then (s_r1_Number p1).bind fun v8 => bif v8.Ok then some (⟨p1, true⟩ : T_R1Said) else some (⟨[], false⟩ : T_R1Said) else bif (v4 == 3) then (s_r1_Key p1).bind fun v11 => (bif v11.Ok then some (!(v11.S == [])) else some false).bind fun v13 => bif v13 then some v11 else some (⟨[], false⟩ : T_R1Said) else bif (v4 == 4) then some (⟨p1, true⟩ : T_R1Said) else some (⟨[], false⟩ : T_R1Said)
def s_r1_SameVal (p0 : Str) (p1 : Str) (p2 : Str) : Option Bool := (s_r1_Norm p0 p1).bind fun v1 => (s_r1_Norm p0 p2).bind fun v2 => (bif v1.Ok then bif v2.Ok then some (v1.S == v2.S) else some false else some false).bind fun v5 => some v5
def r1_attrs_k1 : Option Int := some 0
def r1_attrs_k2 (v4114 : Int) (K1 : Int → Option Int) : Option Int := (addO v4114 1).bind fun v5657 => K1 v5657
def r1_attrs_k4 (v4114 : Int) (K1 : Int → Option Int) : Option Int := r1_attrs_k2 v4114 K1
def r1_attrs_k5 (v5998 : Int) (K2 : Int → Option Int) : Option Int := (addO v5998 1).bind fun v6116 => K2 v6116
def r1_attrs_k6 (v5998 : Int) (K2 : Int → Option Int) : Option Int := r1_attrs_k5 v5998 K2
def r1_attrs_l3 (v5658 : T_Attr) (v5998 : Int) (K2 : Int → Option Int) : Nat → Int → Option Int
  | 0, _ => none
  | g + 1, v6142 => bif (decide (v6142 < v5998)) then (lgetO v5658.Vals v6142).bind fun v6150 => (lgetO v5658.Vals v5998).bind fun v6151 => (s_r1_SameVal v5658.Typ v6150 v6151).bind fun v6152 => bif v6152 then some 20 else (addO v6142 1).bind fun v6154 => (r1_attrs_l3 v5658 v5998 K2 g) v6154 else r1_attrs_k6 v5998 K2
def r1_attrs_l2 (v4114 : Int) (K1 : Int → Option Int) (v5658 : T_Attr) : Nat → Int → Option Int
  | 0, _ => none
  | g + 1, v5998 => bif (decide (v5998 < (v5658.Vals.length : Int))) then r1_attrs_l3 v5658 v5998 (r1_attrs_l2 v4114 K1 v5658 g) FUEL 0 else r1_attrs_k4 v4114 K1
def r1_attrs_k3 (v4114 : Int) (K1 : Int → Option Int) (v5658 : T_Attr) : Option Int := r1_attrs_l2 v4114 K1 v5658 FUEL 0
def r1_attrs_l4 (v4114 : Int) (K1 : Int → Option Int) (v5658 : T_Attr) : Nat → Int → Option Int
  | 0, _ => none
  | g + 1, v6160 => bif (decide (v6160 < (v5658.Vals.length : Int))) then (lgetO v5658.Vals v6160).bind fun v6167 => (s_r1_Norm v5658.Typ v6167).bind fun v6168 => bif (!v6168.Ok) then some 21 else (addO v6160 1).bind fun v6170 => (r1_attrs_l4 v4114 K1 v5658 g) v6170 else r1_attrs_k3 v4114 K1 v5658
def r1_attrs_l1 (p0 : T_Entry) : Nat → Int → Option Int
  | 0, _ => none
  | g + 1, v4114 => bif (decide (v4114 < (p0.Attrs.length : Int))) then (lgetO p0.Attrs v4114).bind fun v5658 => (s_r1_Rule v5658.Typ).bind fun v5659 => bif (v5659 == 0) then some 17 else (s_r1_attr p0 v5658.Typ).bind fun v5661 => bif (decide (v5661 < v4114)) then some 20 else (bif ((v5658.Vals.length : Int) == 0) then some true else bif (decide ((v5658.Vals.length : Int) > 40)) then some true else (s_r1_Rule v5658.Typ).bind fun v5665 => bif (v5665 == 2) then some (decide ((v5658.Vals.length : Int) > 1)) else some false).bind fun v5667 => bif v5667 then some 19 else r1_attrs_l4 v4114 (r1_attrs_l1 p0 g) v5658 FUEL 0 else r1_attrs_k1
def s_r1_attrs (p0 : T_Entry) : Option Int := r1_attrs_l1 p0 FUEL 0
def s_r1_Vals (p0 : T_Entry) (p1 : Str) : Option (List Str) := (s_r1_attr p0 p1).bind fun v1 => bif (decide (v1 < 0)) then some [] else (lgetO p0.Attrs v1).bind fun v3 => some v3.Vals
def r1_Among_k1 : Option Bool := some false
def r1_Among_l1 (p0 : List Str) (p1 : Str) : Nat → Int → Option Bool
  | 0, _ => none
  | g + 1, v18 => bif (decide (v18 < (p0.length : Int))) then (lgetO p0 v18).bind fun v24 => bif (v24 == p1) then some true else (addO v18 1).bind fun v26 => (r1_Among_l1 p0 p1 g) v26 else r1_Among_k1
def s_r1_Among (p0 : List Str) (p1 : Str) : Option Bool := r1_Among_l1 p0 p1 FUEL 0
def r1_classes_k3 (v309 : Bool) : Option Bool := some v309
def r1_classes_l1 (p0 : T_Entry) (v307 : List Str) (v308 : List Str) (v309 : Bool) : Nat → Int → Option Bool
  | 0, _ => none
  | g + 1, v363 => bif (decide (v363 < (p0.Attrs.length : Int))) then (lgetO p0.Attrs v363).bind fun v374 => (s_r1_Lower v374.Typ).bind fun v375 => ((s_r1_Among v307 v375).bind fun v376 => bif (!v376) then (s_r1_Among v308 v375).bind fun v378 => some (!v378) else some false).bind fun v379 => bif v379 then some false else (addO v363 1).bind fun v381 => (r1_classes_l1 p0 v307 v308 v309 g) v381 else r1_classes_k3 v309
def r1_classes_k2 (p0 : T_Entry) (v307 : List Str) (v308 : List Str) (v309 : Bool) : Option Bool := r1_classes_l1 p0 v307 v308 v309 FUEL 0
def r1_classes_l2 (p0 : T_Entry) (v307 : List Str) (v308 : List Str) (v309 : Bool) : Nat → Int → Option Bool
  | 0, _ => none
  | g + 1, v387 => bif (decide (v387 < (v307.length : Int))) then (lgetO v307 v387).bind fun v394 => (s_r1_attr p0 v394).bind fun v395 => bif (decide (v395 < 0)) then some false else (addO v387 1).bind fun v397 => (r1_classes_l2 p0 v307 v308 v309 g) v397 else r1_classes_k2 p0 v307 v308 v309
def r1_classes_k1 (p0 : T_Entry) (v309 : Bool) (v307 : List Str) (v308 : List Str) : Option Bool := r1_classes_l2 p0 v307 v308 v309 FUEL 0
def r1_classes_k4 (v500 : Int) (K3 : Bool → Int → List Str → List Str → Option Bool) (v653 : Bool) (v651 : List Str) (v652 : List Str) : Option Bool := (addO v500 1).bind fun v654 => K3 v653 v654 v651 v652
def r1_classes_k5 (v500 : Int) (K3 : Bool → Int → List Str → List Str → Option Bool) (v660 : Bool) (v681 : List Str) (v682 : List Str) : Option Bool := r1_classes_k4 v500 K3 v660 v681 v682
def r1_classes_l4 (v500 : Int) (K3 : Bool → Int → List Str → List Str → Option Bool) (v660 : Bool) : Nat → List Str → List Str → Str → Str → Bool → List Str → List Str → Bool → Option Bool
  | 0, _, _, _, _, _, _, _, _ => none
  | g + 1, v687, v688, v689, v690, v691, v692, v693, v694 => bif v694 then (appO 16 v687 v692).bind fun v700 => (appO 16 v688 v693).bind fun v701 => (s_r1_FindClass v690).bind fun v702 => (r1_classes_l4 v500 K3 v660 g) v700 v701 v702.C.Name v702.C.Sup v702.C.Structural v702.C.Must v702.C.May v702.Ok else r1_classes_k5 v500 K3 v660 v687 v688
def r1_classes_l3 (p0 : T_Entry) (v1 : List Str) : Nat → Bool → Int → List Str → List Str → Option Bool
  | 0, _, _, _, _ => none
  | g + 1, v499, v500, v497, v498 => bif (decide (v500 < (v1.length : Int))) then (lgetO v1 v500).bind fun v655 => (s_r1_Fold v655).bind fun v656 => (s_r1_FindClass v656).bind fun v657 => bif (!v657.Ok) then some false else (bif v499 then some true else some v657.C.Structural).bind fun v660 => r1_classes_l4 v500 (r1_classes_l3 p0 v1 g) v660 FUEL v497 v498 v657.C.Name v657.C.Sup v657.C.Structural v657.C.Must v657.C.May v657.Ok else r1_classes_k1 p0 v499 v497 v498
def s_r1_classes (p0 : T_Entry) : Option Bool := (s_r1_Vals p0 k_objectclass).bind fun v1 => r1_classes_l3 p0 v1 FUEL false 0 [] []
def r1_Has_k1 : Option Bool := some false
def r1_Has_l1 (p1 : Str) (p2 : Str) (v1 : List Str) : Nat → Int → Option Bool
  | 0, _ => none
  | g + 1, v23 => bif (decide (v23 < (v1.length : Int))) then (lgetO v1 v23).bind fun v30 => (s_r1_SameVal p1 v30 p2).bind fun v31 => bif v31 then some true else (addO v23 1).bind fun v33 => (r1_Has_l1 p1 p2 v1 g) v33 else r1_Has_k1
def s_r1_Has (p0 : T_Entry) (p1 : Str) (p2 : Str) : Option Bool := (s_r1_Vals p0 p1).bind fun v1 => r1_Has_l1 p1 p2 v1 FUEL 0
def s_r1_Check (p0 : T_Entry) : Option Int := (s_r1_ParseDn p0.Dn).bind fun v1 => (bif (!v1.Ok) then some true else bif ((v1.L.length : Int) == 0) then some true else (s_r1_Key p0.Dn).bind fun v4 => some (!v4.Ok)).bind fun v5 => bif v5 then some 34 else bif (decide ((p0.Attrs.length : Int) > 20)) then some 19 else (s_r1_attrs p0).bind fun v8 => bif (v8 != 0) then some v8 else (s_r1_classes p0).bind fun v10 => bif (!v10) then some 65 else (lgetO v1.L 0).bind fun v12 => (lgetO v1.L 0).bind fun v13 => (s_r1_Has p0 v12.Typ v13.Val).bind fun v14 => bif (!v14) then some 64 else some 0
def r1_Texts_k1 : Option Bool := some true
def r1_Texts_l1 (p0 : List Str) (p1 : List Str) : Nat → Int → Option Bool
  | 0, _ => none
  | g + 1, v23 => bif (decide (v23 < (p0.length : Int))) then (lgetO p0 v23).bind fun v30 => (lgetO p1 v23).bind fun v31 => bif (!(v30 == v31)) then some false else (addO v23 1).bind fun v33 => (r1_Texts_l1 p0 p1 g) v33 else r1_Texts_k1
def s_r1_Texts (p0 : List Str) (p1 : List Str) : Option Bool := bif ((p0.length : Int) != (p1.length : Int)) then some false else r1_Texts_l1 p0 p1 FUEL 0
end Go.Ka
