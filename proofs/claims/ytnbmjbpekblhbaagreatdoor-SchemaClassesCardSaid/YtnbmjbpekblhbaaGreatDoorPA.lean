/- The plain functions. -/
import Derived.Test.YtnbmjbpekblhbaaGreatDoorKaSt
import Derived.Test.YtnbmjbpekblhbaaGreatDoorKaLp
import Derived.Test.YtnbmjbpekblhbaaGreatDoorPL
import Derived.Test.YtnbmjbpekblhbaaGreatDoorPR
set_option linter.all false
namespace Go.Ka
def s_dn_lower (p0 : UInt8) : Option UInt8 := (bif (decide (65 ≤ p0)) then some (decide (p0 ≤ 90)) else some false).bind fun v2 => bif v2 then some (p0 + 32) else some p0
def s_dn_letter (p0 : UInt8) : Option Bool := ((s_dn_lower p0).bind fun v1 => bif (decide (97 ≤ v1)) then (s_dn_lower p0).bind fun v3 => some (decide (v3 ≤ 122)) else some false).bind fun v4 => some v4
def dn_typed_k1 : Option Bool := some true
def dn_typed_l1 (v7 : Str) : Nat → Int → Option Bool
  | 0, _ => none
  | g + 1, v45 => bif (decide (v45 < (v7.length : Int))) then (lgetO v7 v45).bind fun v56 => ((s_dn_letter v56).bind fun v57 => bif (!v57) then bif (decide (48 ≤ v56)) then bif (!(decide (v56 ≤ 57))) then some (v56 != 45) else some false else some (v56 != 45) else some false).bind fun v61 => bif v61 then some false else (addO v45 1).bind fun v63 => (dn_typed_l1 v7 g) v63 else dn_typed_k1
def s_dn_typed (p0 : Str) : Option Bool := (bif (p0 == []) then some true else bif (decide ((p0.length : Int) > 30)) then some true else (lgetO p0 0).bind fun v3 => (s_dn_letter v3).bind fun v4 => some (!v4)).bind fun v5 => bif v5 then some false else (bytO p0).bind fun v7 => dn_typed_l1 v7 FUEL 0
def s_dn_special (p0 : UInt8) : Option Bool := (s_indexByte k_x2c2b225c3c3e3b p0).bind fun v1 => some (decide (v1 ≥ 0))
def s_dn_digit (p0 : UInt8) : Option Int := (s_dn_lower p0).bind fun v1 => (s_indexByte k_0123456789abcdef v1).bind fun v2 => some v2
def s_dn_escaped (p0 : Str) : Option (UInt8 × Int) := bif (p0 == []) then some (0, 0) else ((lgetO p0 0).bind fun v2 => (s_dn_special v2).bind fun v3 => bif v3 then some true else (lgetO p0 0).bind fun v5 => bif (v5 == 61) then some true else (lgetO p0 0).bind fun v7 => bif (v7 == 35) then some true else (lgetO p0 0).bind fun v9 => some (v9 == 32)).bind fun v10 => bif v10 then (lgetO p0 0).bind fun v12 => some (v12, 1) else (bif (decide ((p0.length : Int) > 1)) then (lgetO p0 0).bind fun v14 => (s_dn_digit v14).bind fun v15 => bif (decide (v15 ≥ 0)) then (lgetO p0 1).bind fun v17 => (s_dn_digit v17).bind fun v18 => some (decide (v18 ≥ 0)) else some false else some false).bind fun v19 => bif v19 then (lgetO p0 0).bind fun v21 => (s_dn_digit v21).bind fun v22 => (shZ .shl .i64 v22 4).bind fun v23 => (lgetO p0 1).bind fun v24 => (s_dn_digit v24).bind fun v25 => some ((toU8 (pbits .or .i64 v23 v25)), 2) else some (0, 0)
def dn_value_k1 (p0 : Str) (v74 : Bool) (v75 : Int) (v73 : Str) : Option (Str × Str × Bool) := (lsubO p0 v75 p0.length).bind fun v76 => some (v73, v76, (!v74))
def dn_value_l1 (p0 : Str) : Nat → Bool → Int → Str → Option (Str × Str × Bool)
  | 0, _, _, _ => none
  | g + 1, v101, v102, v100 => (bif (decide (v102 < (p0.length : Int))) then (lgetO p0 v102).bind fun v127 => some (v127 != 44) else some false).bind fun v128 => bif v128 then (lgetO p0 v102).bind fun v130 => bif (v130 == 92) then (addO v102 1).bind fun v132 => (lsubO p0 v132 p0.length).bind fun v133 => (s_dn_escaped v133).bind fun v134 => bif (v134.2 == 0) then some ([], [], false) else (addO v102 v134.2).bind fun v136 => (appO 1 v100 ([v134.1] : Str)).bind fun v137 => (addO v136 1).bind fun v138 => (dn_value_l1 p0 g) (v130 == 32) v138 v137 else (bif (decide (v130 < 32)) then some true else bif (decide (126 < v130)) then some true else (s_dn_special v130).bind fun v141 => bif v141 then some true else bif (v102 == 0) then bif (v130 == 35) then some true else some (v130 == 32) else some false).bind fun v145 => bif v145 then some ([], [], false) else (appO 1 v100 ([v130] : Str)).bind fun v147 => (addO v102 1).bind fun v148 => (dn_value_l1 p0 g) (v130 == 32) v148 v147 else dn_value_k1 p0 v101 v102 v100
def s_dn_value (p0 : Str) : Option (Str × Str × Bool) := dn_value_l1 p0 FUEL false 0 []
def dn_May_k1 (p0 : List T_Rdn) : Option Bool := some (decide ((p0.length : Int) ≤ 8))
def dn_May_l1 (p0 : List T_Rdn) : Nat → Int → Option Bool
  | 0, _ => none
  | g + 1, v34 => bif (decide (v34 < (p0.length : Int))) then (lgetO p0 v34).bind fun v44 => ((s_dn_typed v44.Typ).bind fun v45 => bif (!v45) then some true else bif (v44.Val == []) then some true else some (decide ((v44.Val.length : Int) > 100))).bind fun v48 => bif v48 then some false else (addO v34 1).bind fun v50 => (dn_May_l1 p0 g) v50 else dn_May_k1 p0
def s_dn_May (p0 : List T_Rdn) : Option Bool := dn_May_l1 p0 FUEL 0
def dn_Parse_k1 (v40 : List T_Rdn) : Option (List T_Rdn × Bool) := (s_dn_May v40).bind fun v41 => bif (!v41) then some ([], false) else some (v40, true)
def dn_Parse_l1 : Nat → Str → Bool → List T_Rdn → Option (List T_Rdn × Bool)
  | 0, _, _, _ => none
  | g + 1, v55, v57, v56 => bif v57 then (s_strings_Cut v55 k_x3d).bind fun v71 => (bif (!v71.2.2) then some true else (s_dn_typed v71.1).bind fun v73 => bif (!v73) then some true else some ((v56.length : Int) == 8)).bind fun v75 => bif v75 then some ([], false) else (s_dn_value v71.2.1).bind fun v77 => bif (!v77.2.2) then some ([], false) else (appO 32 v56 ([(⟨v71.1, v77.1⟩ : T_Rdn)] : List T_Rdn)).bind fun v79 => bif (!(v77.2.1 == [])) then (lsubO v77.2.1 1 v77.2.1.length).bind fun v81 => (dn_Parse_l1 g) v81 (!(v77.2.1 == [])) v79 else (dn_Parse_l1 g) v77.2.1 (!(v77.2.1 == [])) v79 else dn_Parse_k1 v56
def s_dn_Parse (p0 : Str) : Option (List T_Rdn × Bool) := dn_Parse_l1 FUEL p0 (!(p0 == [])) []
def dn_lowered_k1 (v19 : Str) : Option Str := some v19
def dn_lowered_l1 (v1 : Str) : Nat → Int → Str → Option Str
  | 0, _, _ => none
  | g + 1, v26, v25 => bif (decide (v26 < (v1.length : Int))) then (lgetO v25 v26).bind fun v33 => (s_dn_lower v33).bind fun v34 => (lgetO v25 v26).bind fun v35 => (addO v26 1).bind fun v36 => (dn_lowered_l1 v1 g) v36 (v25.set v26.toNat v34) else dn_lowered_k1 v25
def s_dn_lowered (p0 : Str) : Option Str := (bytO p0).bind fun v1 => dn_lowered_l1 v1 FUEL 0 v1
def dn_Fold_k1 (v35 : Str) : Option Str := some v35
def dn_Fold_l1 (v3 : Str) : Nat → Int → Str → Option Str
  | 0, _, _ => none
  | g + 1, v45, v46 => bif (decide (v45 < (v3.length : Int))) then (lgetO v3 v45).bind fun v58 => (bif (v58 == 32) then (subO (v46.length : Int) 1).bind fun v60 => (lgetO v46 v60).bind fun v61 => some (v61 == 32) else some false).bind fun v62 => bif v62 then (addO v45 1).bind fun v64 => (dn_Fold_l1 v3 g) v64 v46 else (appO 1 v46 ([v58] : Str)).bind fun v65 => (addO v45 1).bind fun v66 => (dn_Fold_l1 v3 g) v66 v65 else dn_Fold_k1 v46
def s_dn_Fold (p0 : Str) : Option Str := (s_trim p0 k_x20).bind fun v1 => (s_dn_lowered v1).bind fun v2 => (bytO v2).bind fun v3 => dn_Fold_l1 v3 FUEL 0 []
def dn_Text_k1 (v1206 : Str) : Option Str := (s_strings_Builder_String v1206).bind fun v1207 => some v1207
def dn_Text_k2 (v1610 : Int) (K1 : Int → Str → Option Str) (v2212 : Str) : Option Str := (addO v1610 1).bind fun v2213 => K1 v2213 v2212
def dn_Text_k4 (v1610 : Int) (K1 : Int → Str → Option Str) (v2315 : Str) : Option Str := dn_Text_k2 v1610 K1 v2315
def dn_Text_l2 (v1610 : Int) (K1 : Int → Str → Option Str) (v2214 : T_Rdn) : Nat → Int → Str → Option Str
  | 0, _, _ => none
  | g + 1, v2348, v2347 => bif (decide (v2348 < (v2214.Val.length : Int))) then (lgetO v2214.Val v2348).bind fun v2381 => (bif (decide (v2381 < 32)) then some true else some (decide (126 < v2381))).bind fun v2383 => bif v2383 then (shU .shr v2381 4).bind fun v2385 => (lgetO k_0123456789abcdef (v2385.toNat : Int)).bind fun v2386 => (lgetO k_0123456789abcdef ((v2381 &&& 15).toNat : Int)).bind fun v2387 => (s_strings_Builder_Write v2347 ([92, v2386, v2387] : Str)).bind fun v2388 => (addO v2348 1).bind fun v2389 => (dn_Text_l2 v1610 K1 v2214 g) v2389 v2388.1 else (s_dn_special v2381).bind fun v2390 => bif v2390 then (s_strings_Builder_WriteByte v2347 92).bind fun v2392 => (s_strings_Builder_WriteByte v2392.1 v2381).bind fun v2393 => (addO v2348 1).bind fun v2394 => (dn_Text_l2 v1610 K1 v2214 g) v2394 v2393.1 else (bif (v2348 == 0) then bif (v2381 == 35) then some true else some (v2381 == 32) else some false).bind fun v2397 => bif v2397 then (s_strings_Builder_WriteByte v2347 92).bind fun v2399 => (s_strings_Builder_WriteByte v2399.1 v2381).bind fun v2400 => (addO v2348 1).bind fun v2401 => (dn_Text_l2 v1610 K1 v2214 g) v2401 v2400.1 else ((subO (v2214.Val.length : Int) 1).bind fun v2402 => bif (v2348 == v2402) then some (v2381 == 32) else some false).bind fun v2404 => bif v2404 then (s_strings_Builder_WriteByte v2347 92).bind fun v2406 => (s_strings_Builder_WriteByte v2406.1 v2381).bind fun v2407 => (addO v2348 1).bind fun v2408 => (dn_Text_l2 v1610 K1 v2214 g) v2408 v2407.1 else (s_strings_Builder_WriteByte v2347 v2381).bind fun v2409 => (addO v2348 1).bind fun v2410 => (dn_Text_l2 v1610 K1 v2214 g) v2410 v2409.1 else dn_Text_k4 v1610 K1 v2347
def dn_Text_k3 (v1610 : Int) (K1 : Int → Str → Option Str) (v2214 : T_Rdn) (v2217 : Str) : Option Str := (s_strings_Builder_WriteString v2217 v2214.Typ).bind fun v2218 => (s_strings_Builder_WriteByte v2218.1 61).bind fun v2219 => dn_Text_l2 v1610 K1 v2214 FUEL 0 v2219.1
def dn_Text_l1 (p0 : List T_Rdn) : Nat → Int → Str → Option Str
  | 0, _, _ => none
  | g + 1, v1610, v1609 => bif (decide (v1610 < (p0.length : Int))) then (lgetO p0 v1610).bind fun v2214 => bif (decide (v1610 > 0)) then (s_strings_Builder_WriteByte v1609 44).bind fun v2412 => dn_Text_k3 v1610 (dn_Text_l1 p0 g) v2214 v2412.1 else dn_Text_k3 v1610 (dn_Text_l1 p0 g) v2214 v1609 else dn_Text_k1 v1609
def s_dn_Text (p0 : List T_Rdn) : Option Str := dn_Text_l1 p0 FUEL 0 []
def dn_Key_k1 (v35 : List T_Rdn) : Option (Str × Bool) := (s_dn_Text v35).bind fun v36 => some (v36, true)
def dn_Key_l1 (v1 : List T_Rdn × Bool) : Nat → Int → List T_Rdn → Option (Str × Bool)
  | 0, _, _ => none
  | g + 1, v48, v47 => bif (decide (v48 < (v1.1.length : Int))) then (lgetO v47 v48).bind fun v60 => (s_dn_lowered v60.Typ).bind fun v61 => (lgetO v47 v48).bind fun v62 => (s_dn_Fold v62.Val).bind fun v63 => (lgetO v47 v48).bind fun v64 => (lgetO (v47.set v48.toNat (⟨v61, v64.Val⟩ : T_Rdn)) v48).bind fun v65 => (lgetO ((v47.set v48.toNat (⟨v61, v64.Val⟩ : T_Rdn)).set v48.toNat (⟨v65.Typ, v63⟩ : T_Rdn)) v48).bind fun v66 => bif (v66.Val == []) then some ([], false) else (addO v48 1).bind fun v68 => (dn_Key_l1 v1 g) v68 ((v47.set v48.toNat (⟨v61, v64.Val⟩ : T_Rdn)).set v48.toNat (⟨v65.Typ, v63⟩ : T_Rdn)) else dn_Key_k1 v47
def s_dn_Key (p0 : Str) : Option (Str × Bool) := (s_dn_Parse p0).bind fun v1 => bif (!v1.2) then some ([], false) else dn_Key_l1 v1 FUEL 0 v1.1
def s_match_rules (p0 : Str) : Option Int := bif (p0 == k_uidnumber) then some 2 else bif (p0 == k_member) then some 3 else bif (p0 == k_userpassword) then some 4 else bif (p0 == k_objectclass) then some 1 else bif (p0 == k_cn) then some 1 else bif (p0 == k_sn) then some 1 else bif (p0 == k_o) then some 1 else bif (p0 == k_ou) then some 1 else bif (p0 == k_uid) then some 1 else bif (p0 == k_mail) then some 1 else bif (p0 == k_description) then some 1 else some 0
def match_Canon_k1 (v28 : Str) : Option (Str × Bool) := (s_match_rules v28).bind fun v29 => bif (v29 == 0) then some ([], false) else some (v28, true)
def match_Canon_l1 (v1 : Str) : Nat → Int → Str → Option (Str × Bool)
  | 0, _, _ => none
  | g + 1, v40, v39 => bif (decide (v40 < (v1.length : Int))) then (lgetO v39 v40).bind fun v50 => (bif (decide (65 ≤ v50)) then some (decide (v50 ≤ 90)) else some false).bind fun v52 => bif v52 then (lgetO v39 v40).bind fun v54 => (addO v40 1).bind fun v55 => (match_Canon_l1 v1 g) v55 (v39.set v40.toNat ((v50 + 97) - 65)) else (addO v40 1).bind fun v56 => (match_Canon_l1 v1 g) v56 v39 else match_Canon_k1 v39
def s_match_Canon (p0 : Str) : Option (Str × Bool) := (bytO p0).bind fun v1 => match_Canon_l1 v1 FUEL 0 v1
def slices_Index_string_k1 : Option Int := some (-1)
def slices_Index_string_l1 (p0 : List Str) (p1 : Str) : Nat → Int → Option Int
  | 0, _ => none
  | g + 1, v18 => bif (decide (v18 < (p0.length : Int))) then (lgetO p0 v18).bind fun v24 => bif (p1 == v24) then some v18 else (addO v18 1).bind fun v26 => (slices_Index_string_l1 p0 p1 g) v26 else slices_Index_string_k1
def s_slices_Index_string (p0 : List Str) (p1 : Str) : Option Int := slices_Index_string_l1 p0 p1 FUEL 0
def s_slices_Contains_string (p0 : List Str) (p1 : Str) : Option Bool := (s_slices_Index_string p0 p1).bind fun v1 => some (decide (v1 ≥ 0))
def s_match_Rule (p0 : Str) : Option Int := (s_match_Canon p0).bind fun v1 => (s_match_rules v1.1).bind fun v2 => some v2
def s_match_number (p0 : Str) : Option Bool := (s_atoi p0).bind fun v1 => (bif (!v1.2) then (s_itoa v1.1).bind fun v3 => bif (v3 == p0) then (s_trimPrefix p0 k_x2d).bind fun v5 => some (decide ((v5.length : Int) ≤ 15)) else some false else some false).bind fun v6 => some v6
def s_match_Norm (p0 : Str) (p1 : Str) : Option (Str × Bool) := (bif (p1 == []) then some true else some (decide ((p1.length : Int) > 100))).bind fun v2 => bif v2 then some ([], false) else (s_match_Rule p0).bind fun v4 => bif (v4 == 1) then (s_dn_Fold p1).bind fun v6 => (some (v6 == [])).bind fun v7 => bif v7 then some ([], false) else some (v6, true) else bif (v4 == 2) then (s_match_number p1).bind fun v10 => (bif (!v10) then some true else some (p1 == [])).bind fun v12 => bif v12 then some ([], false) else some (p1, true) else bif (v4 == 3) then (s_dn_Key p1).bind fun v15 => (bif (!v15.2) then some true else some (v15.1 == [])).bind fun v17 => bif v17 then some ([], false) else some (v15.1, true) else bif (v4 == 4) then (some (p1 == [])).bind fun v20 => bif v20 then some ([], false) else some (p1, true) else (some true).bind fun v22 => bif v22 then some ([], false) else some (p1, true)
def schema_attribute_k1 (p0 : T_Attr) (v30 : List Str) : Option Int := (s_sortS v30).bind fun v31 => (s_compactS (sortL v30)).bind fun v32 => bif (decide ((v32.length : Int) < (p0.Vals.length : Int))) then some 20 else some 0
def schema_attribute_l1 (p0 : T_Attr) (v1 : Str × Bool) : Nat → Int → List Str → Option Int
  | 0, _, _ => none
  | g + 1, v41, v40 => bif (decide (v41 < (p0.Vals.length : Int))) then (lgetO p0.Vals v41).bind fun v49 => (s_match_Norm v1.1 v49).bind fun v50 => bif (!v50.2) then some 21 else (appO 16 v40 ([v50.1] : List Str)).bind fun v52 => (addO v41 1).bind fun v53 => (schema_attribute_l1 p0 v1 g) v53 v52 else schema_attribute_k1 p0 v40
def s_schema_attribute (p0 : T_Attr) (p1 : List Str) : Option Int := (s_match_Canon p0.Typ).bind fun v1 => bif (!v1.2) then some 17 else (s_slices_Contains_string p1 v1.1).bind fun v3 => bif v3 then some 20 else (bif ((p0.Vals.length : Int) == 0) then some true else bif (decide ((p0.Vals.length : Int) > 40)) then some true else bif (v1.1 == k_uidnumber) then some (decide ((p0.Vals.length : Int) > 1)) else some false).bind fun v8 => bif v8 then some 19 else schema_attribute_l1 p0 v1 FUEL 0 []
def schema_lowered_k1 (v28 : Str) : Option Str := some v28
def schema_lowered_l1 (v1 : Str) : Nat → Int → Str → Option Str
  | 0, _, _ => none
  | g + 1, v38, v37 => bif (decide (v38 < (v1.length : Int))) then (lgetO v37 v38).bind fun v48 => (bif (decide (65 ≤ v48)) then some (decide (v48 ≤ 90)) else some false).bind fun v50 => bif v50 then (lgetO v37 v38).bind fun v52 => (addO v38 1).bind fun v53 => (schema_lowered_l1 v1 g) v53 (v37.set v38.toNat ((v48 + 97) - 65)) else (addO v38 1).bind fun v54 => (schema_lowered_l1 v1 g) v54 v37 else schema_lowered_k1 v37
def s_schema_lowered (p0 : Str) : Option Str := (bytO p0).bind fun v1 => schema_lowered_l1 v1 FUEL 0 v1
def s_match_norms (p0 : Str) (p1 : Str) (p2 : Str) : Option (Str × Str × Bool) := (s_match_Norm p0 p1).bind fun v1 => (s_match_Norm p0 p2).bind fun v2 => (bif v1.2 then some (v1.1, v2.1, v2.2) else some (v1.1, v2.1, false)).bind fun v4 => some (v4.1, v4.2.1, v4.2.2)
def s_match_Same (p0 : Str) (p1 : Str) (p2 : Str) : Option Bool := (s_match_norms p0 p1 p2).bind fun v1 => (bif v1.2.2 then some (v1.1 == v1.2.1) else some false).bind fun v3 => some v3
def s_schema_Check_1 (p0 : Str) (p1 : Str) (p2 : T_Rdn) : Option Bool := (s_match_Same p1 p0 p2.Val).bind fun v1 => some v1
def slices_IndexFunc_string_k1 : Option Int := some (-1)
def slices_IndexFunc_string_l1 (p0 : List Str) (p1 : Str → Option Bool) : Nat → Int → Option Int
  | 0, _ => none
  | g + 1, v22 => bif (decide (v22 < (p0.length : Int))) then (lgetO p0 v22).bind fun v29 => (p1 v29).bind fun v30 => bif v30 then some v22 else (addO v22 1).bind fun v32 => (slices_IndexFunc_string_l1 p0 p1 g) v32 else slices_IndexFunc_string_k1
def s_slices_IndexFunc_string (p0 : List Str) (p1 : Str → Option Bool) : Option Int := slices_IndexFunc_string_l1 p0 p1 FUEL 0
def s_slices_ContainsFunc_string (p0 : List Str) (p1 : Str → Option Bool) : Option Bool := (s_slices_IndexFunc_string p0 p1).bind fun v1 => some (decide (v1 ≥ 0))
def schema_classes_k1 (v21 : List T_Class) : Option (List T_Class) := some v21
def schema_classes_l1 : Nat → Int → List T_Class → Option (List T_Class)
  | 0, _, _ => none
  | g + 1, v29, v28 => bif (decide (v29 < ([(⟨k_top, [], [], k_objectclass, []⟩ : T_arr5Str), (⟨k_organization, k_top, k_S, k_o, k_description⟩ : T_arr5Str), (⟨k_organizationalunit, k_top, k_S, k_ou, k_description⟩ : T_arr5Str), (⟨k_person, k_top, k_S, k_x636e20736e, k_x6465736372697074696f6e207573657270617373⟩ : T_arr5Str), (⟨k_inetorgperson, k_person, k_S, [], k_x756964206d61696c⟩ : T_arr5Str), (⟨k_posix, k_top, [], k_x756964207569646e756d626572, []⟩ : T_arr5Str), (⟨k_groupofnames, k_top, k_S, k_x636e206d656d626572, k_description⟩ : T_arr5Str)].length : Int))) then (lgetO [(⟨k_top, [], [], k_objectclass, []⟩ : T_arr5Str), (⟨k_organization, k_top, k_S, k_o, k_description⟩ : T_arr5Str), (⟨k_organizationalunit, k_top, k_S, k_ou, k_description⟩ : T_arr5Str), (⟨k_person, k_top, k_S, k_x636e20736e, k_x6465736372697074696f6e207573657270617373⟩ : T_arr5Str), (⟨k_inetorgperson, k_person, k_S, [], k_x756964206d61696c⟩ : T_arr5Str), (⟨k_posix, k_top, [], k_x756964207569646e756d626572, []⟩ : T_arr5Str), (⟨k_groupofnames, k_top, k_S, k_x636e206d656d626572, k_description⟩ : T_arr5Str)] v29).bind fun v37 => (s_fields v37.x3).bind fun v38 => (s_fields v37.x4).bind fun v39 => (appO 88 v28 ([(⟨v37.x0, v37.x1, (v37.x2 == k_S), v38, v39⟩ : T_Class)] : List T_Class)).bind fun v40 => (addO v29 1).bind fun v41 => (schema_classes_l1 g) v41 v40 else schema_classes_k1 v28
def s_schema_classes : Option (List T_Class) := schema_classes_l1 FUEL 0 []
def s_schema_Find_1 (p0 : T_Class) (p1 : Str) : Option Bool := (s_schema_lowered p1).bind fun v1 => some (p0.Name == v1)
def slices_IndexFunc_Class_k1 : Option Int := some (-1)
def slices_IndexFunc_Class_l1 (p0 : List T_Class) (p1 : T_Class → Option Bool) : Nat → Int → Option Int
  | 0, _ => none
  | g + 1, v22 => bif (decide (v22 < (p0.length : Int))) then (lgetO p0 v22).bind fun v29 => (p1 v29).bind fun v30 => bif v30 then some v22 else (addO v22 1).bind fun v32 => (slices_IndexFunc_Class_l1 p0 p1 g) v32 else slices_IndexFunc_Class_k1
def s_slices_IndexFunc_Class (p0 : List T_Class) (p1 : T_Class → Option Bool) : Option Int := slices_IndexFunc_Class_l1 p0 p1 FUEL 0
def s_schema_Find (p0 : Str) : Option (T_Class × Bool) := (s_schema_classes).bind fun v1 => (s_slices_IndexFunc_Class v1 (fun x => s_schema_Find_1 x p0)).bind fun v2 => bif (decide (v2 < 0)) then some ((⟨[], [], false, [], []⟩ : T_Class), false) else (lgetO v1 v2).bind fun v4 => (s_cloneS v4.Must).bind fun v5 => (s_cloneS v4.May).bind fun v6 => some ((⟨v4.Name, v4.Sup, v4.Structural, v5, v6⟩ : T_Class), true)
def schema_above_k1 (v16 : List T_Class) : Option (List T_Class) := some v16
def schema_above_l1 : Nat → Str → Str → Bool → List Str → List Str → List T_Class → Option (List T_Class)
  | 0, _, _, _, _, _, _ => none
  | g + 1, v20, v21, v22, v23, v24, v25 => bif (!(v21 == [])) then (s_schema_Find v21).bind fun v30 => (appO 88 v25 ([v30.1] : List T_Class)).bind fun v31 => (schema_above_l1 g) v30.1.Name v30.1.Sup v30.1.Structural v30.1.Must v30.1.May v31 else schema_above_k1 v25
def s_schema_above (p0 : T_Class) : Option (List T_Class) := schema_above_l1 FUEL p0.Name p0.Sup p0.Structural p0.Must p0.May ([p0] : List T_Class)
def s_schema_classed_1 (p0 : Str) (p1 : List Str) : Option Bool := (s_slices_Contains_string p1 p0).bind fun v1 => some (!v1)
def s_schema_classed_2 (p0 : Str) (p1 : List Str) (p2 : List Str) : Option Bool := ((s_slices_Contains_string p1 p0).bind fun v1 => bif (!v1) then (s_slices_Contains_string p2 p0).bind fun v3 => some (!v3) else some false).bind fun v4 => some v4
def schema_classed_k1 (p0 : List Str) (v288 : Bool) (v289 : List Str) (v290 : List Str) : Option Bool := (s_slices_ContainsFunc_string v289 (fun x => s_schema_classed_1 x p0)).bind fun v291 => (s_slices_ContainsFunc_string p0 (fun x => s_schema_classed_2 x v289 v290)).bind fun v292 => (bif v288 then bif (!v291) then some (!v292) else some false else some false).bind fun v295 => some v295
def schema_classed_k2 (v392 : Int) (K1 : Bool → Int → List Str → List Str → Option Bool) (v534 : Bool) (v535 : List Str) (v536 : List Str) : Option Bool := (addO v392 1).bind fun v537 => K1 v534 v537 v535 v536
def schema_classed_k3 (v392 : Int) (K1 : Bool → Int → List Str → List Str → Option Bool) (v543 : Bool) (v563 : List Str) (v564 : List Str) : Option Bool := schema_classed_k2 v392 K1 v543 v563 v564
def schema_classed_l2 (v392 : Int) (K1 : Bool → Int → List Str → List Str → Option Bool) (v543 : Bool) (v544 : List T_Class) : Nat → Int → List Str → List Str → Option Bool
  | 0, _, _, _ => none
  | g + 1, v572, v570, v571 => bif (decide (v572 < (v544.length : Int))) then (lgetO v544 v572).bind fun v579 => (appO 16 v570 v579.Must).bind fun v580 => (appO 16 v571 v579.May).bind fun v581 => (addO v572 1).bind fun v582 => (schema_classed_l2 v392 K1 v543 v544 g) v582 v580 v581 else schema_classed_k3 v392 K1 v543 v570 v571
def schema_classed_l1 (p0 : List Str) (p1 : List Str) : Nat → Bool → Int → List Str → List Str → Option Bool
  | 0, _, _, _, _ => none
  | g + 1, v389, v392, v390, v391 => bif (decide (v392 < (p1.length : Int))) then (lgetO p1 v392).bind fun v538 => (s_dn_Fold v538).bind fun v539 => (s_schema_Find v539).bind fun v540 => bif (!v540.2) then some false else (bif v389 then some true else some v540.1.Structural).bind fun v543 => (s_schema_above v540.1).bind fun v544 => schema_classed_l2 v392 (schema_classed_l1 p0 p1 g) v543 v544 FUEL 0 v390 v391 else schema_classed_k1 p0 v389 v390 v391
def s_schema_classed (p0 : List Str) (p1 : List Str) : Option Bool := schema_classed_l1 p0 p1 FUEL false 0 [] []
def schema_Check_k1 (v65 : List Str) (v66 : Bool) (v64 : List Str) : Option Int := (s_schema_classed v64 v65).bind fun v67 => bif (!v67) then some 65 else bif (!v66) then some 64 else some 0
def schema_Check_l1 (p0 : T_Entry) (v8 : T_Rdn) : Nat → List Str → Bool → Int → List Str → Option Int
  | 0, _, _, _, _ => none
  | g + 1, v88, v89, v90, v87 => bif (decide (v90 < (p0.Attrs.length : Int))) then (lgetO p0.Attrs v90).bind fun v109 => (s_schema_attribute v109 v87).bind fun v110 => bif (v110 != 0) then some v110 else (s_match_Canon v109.Typ).bind fun v112 => (appO 16 v87 ([v112.1] : List Str)).bind fun v113 => bif (v112.1 == k_objectclass) then (s_schema_lowered v8.Typ).bind fun v115 => bif (v112.1 == v115) then (s_slices_ContainsFunc_string v109.Vals (fun x => s_schema_Check_1 x v112.1 v8)).bind fun v117 => (addO v90 1).bind fun v118 => (schema_Check_l1 p0 v8 g) v109.Vals v117 v118 v113 else (addO v90 1).bind fun v119 => (schema_Check_l1 p0 v8 g) v109.Vals v89 v119 v113 else (s_schema_lowered v8.Typ).bind fun v120 => bif (v112.1 == v120) then (s_slices_ContainsFunc_string v109.Vals (fun x => s_schema_Check_1 x v112.1 v8)).bind fun v122 => (addO v90 1).bind fun v123 => (schema_Check_l1 p0 v8 g) v88 v122 v123 v113 else (addO v90 1).bind fun v124 => (schema_Check_l1 p0 v8 g) v88 v89 v124 v113 else schema_Check_k1 v88 v89 v87
def s_schema_Check (p0 : T_Entry) : Option Int := (s_dn_Parse p0.Dn).bind fun v1 => (bif (!v1.2) then some true else some ((v1.1.length : Int) == 0)).bind fun v3 => bif v3 then some 34 else (s_dn_Key p0.Dn).bind fun v5 => bif (!v5.2) then some 34 else bif (decide ((p0.Attrs.length : Int) > 20)) then some 19 else (lgetO v1.1 0).bind fun v8 => schema_Check_l1 p0 v8 FUEL [] false 0 []
end Go.Ka
