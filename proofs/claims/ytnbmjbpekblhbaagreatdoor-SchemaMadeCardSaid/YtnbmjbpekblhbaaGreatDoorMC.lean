/- Plain kinds and texts of the program. The plain functions. The plain functions. The plain functions. The plain functions. -/
import Derived.Test.YtnbmjbpekblhbaaGreatDoorMB
set_option linter.all false
namespace Go.Ka
variable [Tab]
structure T_Class where
  Name : Str
  Sup : Str
  Structural : Bool
  Must : List Str
  May : List Str
instance : Enc T_Class := ⟨5, fun a => [tx a.Name, tx a.Sup, bo a.Structural, ar a.Must, ar a.May], fun _ => rfl, fun _ => cellL rfl, fun _ => (nfc nfv (nfc nfv (nfc nfv (nfc nfa (nfc nfa nfn)))))⟩
structure T_R1Class where
  C : T_Class
  Ok : Bool
instance : Enc T_R1Class := ⟨6, fun a => [tx a.C.Name, tx a.C.Sup, bo a.C.Structural, ar a.C.Must, ar a.C.May, bo a.Ok], fun _ => rfl, fun _ => cellL rfl, fun _ => (nfc nfv (nfc nfv (nfc nfv (nfc nfa (nfc nfa (nfc nfv nfn))))))⟩
structure T_Rdn where
  Typ : Str
  Val : Str
instance : Enc T_Rdn := ⟨2, fun a => [tx a.Typ, tx a.Val], fun _ => rfl, fun _ => cellL rfl, fun _ => (nfc nfv (nfc nfv nfn))⟩
structure T_R1Dn where
  L : List T_Rdn
  Ok : Bool
instance : Enc T_R1Dn := ⟨2, fun a => [ar a.L, bo a.Ok], fun _ => rfl, fun _ => cellL rfl, fun _ => (nfc nfa (nfc nfv nfn))⟩
structure T_R1Said where
  S : Str
  Ok : Bool
instance : Enc T_R1Said := ⟨2, fun a => [tx a.S, bo a.Ok], fun _ => rfl, fun _ => cellL rfl, fun _ => (nfc nfv (nfc nfv nfn))⟩
structure T_Attr where
  Typ : Str
  Vals : List Str
instance : Enc T_Attr := ⟨2, fun a => [tx a.Typ, ar a.Vals], fun _ => rfl, fun _ => cellL rfl, fun _ => (nfc nfv (nfc nfa nfn))⟩
structure T_Entry where
  Dn : Str
  Attrs : List T_Attr
instance : Enc T_Entry := ⟨2, fun a => [tx a.Dn, ar a.Attrs], fun _ => rfl, fun _ => cellL rfl, fun _ => (nfc nfv (nfc nfa nfn))⟩
structure T_R1Num where
  N : Int
  Ok : Bool
instance : Enc T_R1Num := ⟨2, fun a => [i64 a.N, bo a.Ok], fun _ => rfl, fun _ => cellL rfl, fun _ => (nfc nfv (nfc nfv nfn))⟩
structure T_arr5Str where
  x0 : Str
  x1 : Str
  x2 : Str
  x3 : Str
  x4 : Str
instance : Enc T_arr5Str := ⟨5, fun a => [tx a.x0, tx a.x1, tx a.x2, tx a.x3, tx a.x4], fun _ => rfl, fun _ => cellL rfl, fun _ => (nfc nfv (nfc nfv (nfc nfv (nfc nfv (nfc nfv nfn)))))⟩
structure T_AttrT where
  Typ : Str
  Vals : List Str
instance : Enc T_AttrT := ⟨2, fun a => [tx a.Typ, .tst a.Vals], fun _ => rfl, fun _ => cellL rfl, fun _ => (nfc nfv (nfc nfk nfn))⟩
structure T_EntryT where
  Dn : Str
  Attrs : List T_AttrT
instance : Enc T_EntryT := ⟨2, fun a => [tx a.Dn, ar a.Attrs], fun _ => rfl, fun _ => cellL rfl, fun _ => (nfc nfv (nfc nfa nfn))⟩
def T_AttrT.w (a : T_AttrT) : T_Attr := ⟨a.Typ, a.Vals⟩
abbrev k_0123456789abcdef : Str := [48, 49, 50, 51, 52, 53, 54, 55, 56, 57, 97, 98, 99, 100, 101, 102]
abbrev k_1 : Str := [49]
abbrev k_12 : Str := [49, 50]
abbrev k_13 : Str := [49, 51]
abbrev k_2 : Str := [50]
abbrev k_7 : Str := [55]
abbrev k_CN : Str := [67, 78]
abbrev k_Description : Str := [68, 101, 115, 99, 114, 105, 112, 116, 105, 111, 110]
abbrev k_INETorgPERSON : Str := [73, 78, 69, 84, 111, 114, 103, 80, 69, 82, 83, 79, 78]
abbrev k_MEMBER : Str := [77, 69, 77, 66, 69, 82]
abbrev k_Person : Str := [80, 101, 114, 115, 111, 110]
abbrev k_S : Str := [83]
abbrev k_a : Str := [97]
abbrev k_ann : Str := [97, 110, 110]
abbrev k_any : Str := [97, 110, 121]
abbrev k_cn : Str := [99, 110]
abbrev k_description : Str := [100, 101, 115, 99, 114, 105, 112, 116, 105, 111, 110]
abbrev k_e : Str := [101]
abbrev k_groupofnames : Str := [103, 114, 111, 117, 112, 111, 102, 110, 97, 109, 101, 115]
abbrev k_inetOrgPerson : Str := [105, 110, 101, 116, 79, 114, 103, 80, 101, 114, 115, 111, 110]
abbrev k_inetorgperson : Str := [105, 110, 101, 116, 111, 114, 103, 112, 101, 114, 115, 111, 110]
abbrev k_mail : Str := [109, 97, 105, 108]
abbrev k_member : Str := [109, 101, 109, 98, 101, 114]
abbrev k_n : Str := [110]
abbrev k_none : Str := [110, 111, 110, 101]
abbrev k_o : Str := [111]
abbrev k_objectclass : Str := [111, 98, 106, 101, 99, 116, 99, 108, 97, 115, 115]
abbrev k_organization : Str := [111, 114, 103, 97, 110, 105, 122, 97, 116, 105, 111, 110]
abbrev k_organizationalunit : Str := [111, 114, 103, 97, 110, 105, 122, 97, 116, 105, 111, 110, 97, 108, 117, 110, 105, 116]
abbrev k_other : Str := [111, 116, 104, 101, 114]
abbrev k_ou : Str := [111, 117]
abbrev k_p : Str := [112]
abbrev k_person : Str := [112, 101, 114, 115, 111, 110]
abbrev k_posix : Str := [112, 111, 115, 105, 120]
abbrev k_s : Str := [115]
abbrev k_secret : Str := [115, 101, 99, 114, 101, 116]
abbrev k_sn : Str := [115, 110]
abbrev k_top : Str := [116, 111, 112]
abbrev k_u : Str := [117]
abbrev k_uid : Str := [117, 105, 100]
abbrev k_uidNumber : Str := [117, 105, 100, 78, 117, 109, 98, 101, 114]
abbrev k_uidnumber : Str := [117, 105, 100, 110, 117, 109, 98, 101, 114]
abbrev k_userPassword : Str := [117, 115, 101, 114, 80, 97, 115, 115, 119, 111, 114, 100]
abbrev k_userpassword : Str := [117, 115, 101, 114, 112, 97, 115, 115, 119, 111, 114, 100]
abbrev k_v : Str := [118]
abbrev k_w : Str := [119]
abbrev k_x : Str := [120]
abbrev k_x20 : Str := [32]
abbrev k_x2020 : Str := [32, 32]
abbrev k_x2c : Str := [44]
abbrev k_x2c2b223c3e3b : Str := [44, 43, 34, 60, 62, 59]
abbrev k_x2c2b225c3c3e3b : Str := [44, 43, 34, 92, 60, 62, 59]
abbrev k_x2c2b225c3c3e3b3d2320 : Str := [44, 43, 34, 92, 60, 62, 59, 61, 35, 32]
abbrev k_x2c6f3d78 : Str := [44, 111, 61, 120]
abbrev k_x2c6f753d612c6f3d78 : Str := [44, 111, 117, 61, 97, 44, 111, 61, 120]
abbrev k_x2d : Str := [45]
abbrev k_x3d : Str := [61]
abbrev k_x4120 : Str := [65, 32]
abbrev k_x434e3d : Str := [67, 78, 61]
abbrev k_x5c : Str := [92]
abbrev k_x6140 : Str := [97, 64]
abbrev k_x636e206d656d626572 : Str := [99, 110, 32, 109, 101, 109, 98, 101, 114]
abbrev k_x636e20736e : Str := [99, 110, 32, 115, 110]
abbrev k_x636e3d : Str := [99, 110, 61]
abbrev k_x636e3d616e6e : Str := [99, 110, 61, 97, 110, 110]
abbrev k_x636e3d6f74686572 : Str := [99, 110, 61, 111, 116, 104, 101, 114]
abbrev k_x6420 : Str := [100, 32]
abbrev k_x6465736372697074696f6e207573657270617373 : Str := [100, 101, 115, 99, 114, 105, 112, 116, 105, 111, 110, 32, 117, 115, 101, 114, 112, 97, 115, 115, 119, 111, 114, 100]
abbrev k_x6f3d : Str := [111, 61]
abbrev k_x6f3d31 : Str := [111, 61, 49]
abbrev k_x736e3d7a7a2c : Str := [115, 110, 61, 122, 122, 44]
abbrev k_x756964206d61696c : Str := [117, 105, 100, 32, 109, 97, 105, 108]
abbrev k_x756964207569646e756d626572 : Str := [117, 105, 100, 32, 117, 105, 100, 110, 117, 109, 98, 101, 114]
abbrev k_x7569643d61 : Str := [117, 105, 100, 61, 97]
abbrev k_z : Str := [122]
end Go.Ka
namespace Go.Ka
def s_internal_stringslite_Index (p0 : Str) (p1 : Str) : Option Int := (bif ((p1.length : Int) == 0) then some true else some (p1 == p0)).bind fun v2 => bif v2 then some 0 else bif ((p1.length : Int) == 1) then (lgetO p1 0).bind fun v5 => (s_indexByte p0 v5).bind fun v6 => some v6 else bif (decide ((p1.length : Int) ≥ (p0.length : Int))) then some (-1) else none
def s_internal_stringslite_Cut (p0 : Str) (p1 : Str) : Option (Str × Str × Bool) := (s_internal_stringslite_Index p0 p1).bind fun v1 => bif (decide (v1 ≥ 0)) then (lsubO p0 0 v1).bind fun v3 => (addO v1 (p1.length : Int)).bind fun v4 => (lsubO p0 v4 p0.length).bind fun v5 => some (v3, v5, true) else some (p0, [], false)
def s_strings_Cut (p0 : Str) (p1 : Str) : Option (Str × Str × Bool) := (s_internal_stringslite_Cut p0 p1).bind fun v1 => some (v1.1, v1.2.1, v1.2.2)
def s_strings_Builder_WriteByte (p0 : Str) (p1 : UInt8) : Option (Str × Bool) := (appO 1 p0 ([p1] : Str)).bind fun v1 => some (v1, false)
def s_strings_Builder_Write (p0 : Str) (p1 : Str) : Option (Str × Int × Bool) := (appO 1 p0 p1).bind fun v1 => some (v1, (p1.length : Int), false)
def s_strings_Builder_WriteString (p0 : Str) (p1 : Str) : Option (Str × Int × Bool) := (appO 1 p0 p1).bind fun v1 => some (v1, (p1.length : Int), false)
def s_strings_Builder_String (p0 : Str) : Option Str := (lenO p0).bind fun v1 => some p0
end Go.Ka
namespace Go.Ka
def s_r1_Classes : Option (List T_Class) := some [(⟨k_top, [], false, [k_objectclass], []⟩ : T_Class), (⟨k_organization, k_top, true, [k_o], [k_description]⟩ : T_Class), (⟨k_organizationalunit, k_top, true, [k_ou], [k_description]⟩ : T_Class), (⟨k_person, k_top, true, [k_cn, k_sn], [k_description, k_userpassword]⟩ : T_Class), (⟨k_inetorgperson, k_person, true, [], [k_uid, k_mail]⟩ : T_Class), (⟨k_posix, k_top, false, [k_uid, k_uidnumber], []⟩ : T_Class), (⟨k_groupofnames, k_top, true, [k_cn, k_member], [k_description]⟩ : T_Class)]
def r1_Lower_k1 (v34 : Str) : Option Str := some v34
def r1_Lower_l1 : Nat → Int → Str → Option Str
  | 0, _, _ => none
  | g + 1, v46, v45 => bif (decide (v46 < (v45.length : Int))) then ((lgetO v45 v46).bind fun v58 => bif (decide (65 ≤ v58)) then (lgetO v45 v46).bind fun v60 => some (decide (v60 ≤ 90)) else some false).bind fun v61 => bif v61 then (lgetO v45 v46).bind fun v63 => (lgetO v45 v46).bind fun v64 => (addO v46 1).bind fun v65 => (r1_Lower_l1 g) v65 (v45.set v46.toNat (v63 + 32)) else (addO v46 1).bind fun v66 => (r1_Lower_l1 g) v66 v45 else r1_Lower_k1 v45
def s_r1_Lower (p0 : Str) : Option Str := (bytO p0).bind fun v1 => r1_Lower_l1 FUEL 0 v1
def r1_FindClass_k1 : Option T_R1Class := some (⟨(⟨[], [], false, [], []⟩ : T_Class), false⟩ : T_R1Class)
def r1_FindClass_l1 (p0 : Str) (v1 : List T_Class) : Nat → Int → Option T_R1Class
  | 0, _ => none
  | g + 1, v27 => bif (decide (v27 < (v1.length : Int))) then (lgetO v1 v27).bind fun v35 => (s_r1_Lower p0).bind fun v36 => bif (v35.Name == v36) then (lgetO v1 v27).bind fun v38 => some (⟨v38, true⟩ : T_R1Class) else (addO v27 1).bind fun v39 => (r1_FindClass_l1 p0 v1 g) v39 else r1_FindClass_k1
def s_r1_FindClass (p0 : Str) : Option T_R1Class := (s_r1_Classes).bind fun v1 => r1_FindClass_l1 p0 v1 FUEL 0
def r1_cut_k1 (p0 : Str) (v38 : Int) (v37 : List Str) : Option (List Str) := (lsubO p0 v38 p0.length).bind fun v39 => (appO 16 v37 ([v39] : List Str)).bind fun v40 => some v40
def r1_cut_l1 (p0 : Str) : Nat → Int → Int → List Str → Option (List Str)
  | 0, _, _, _ => none
  | g + 1, v54, v52, v53 => bif (decide (v52 < (p0.length : Int))) then (lgetO p0 v52).bind fun v67 => bif (v67 == 92) then (addO v52 1).bind fun v69 => (addO v69 1).bind fun v70 => (r1_cut_l1 p0 g) v54 v70 v53 else bif (v67 == 44) then (lsubO p0 v54 v52).bind fun v72 => (appO 16 v53 ([v72] : List Str)).bind fun v73 => (addO v52 1).bind fun v74 => (addO v52 1).bind fun v75 => (r1_cut_l1 p0 g) v74 v75 v73 else (addO v52 1).bind fun v76 => (r1_cut_l1 p0 g) v54 v76 v53 else r1_cut_k1 p0 v54 v53
def s_r1_cut (p0 : Str) : Option (List Str) := r1_cut_l1 p0 FUEL 0 0 []
def s_r1_hex (p0 : UInt8) : Option Int := (bif (decide (48 ≤ p0)) then some (decide (p0 ≤ 57)) else some false).bind fun v2 => bif v2 then some ((p0 - 48).toNat : Int) else (bif (decide (97 ≤ p0)) then some (decide (p0 ≤ 102)) else some false).bind fun v5 => bif v5 then (addO ((p0 - 97).toNat : Int) 10).bind fun v7 => some v7 else (bif (decide (65 ≤ p0)) then some (decide (p0 ≤ 70)) else some false).bind fun v9 => bif v9 then (addO ((p0 - 65).toNat : Int) 10).bind fun v11 => some v11 else some (-1)
def r1_in_k1 : Option Bool := some false
def r1_in_l1 (p0 : Str) (p1 : UInt8) : Nat → Int → Option Bool
  | 0, _ => none
  | g + 1, v18 => bif (decide (v18 < (p0.length : Int))) then (lgetO p0 v18).bind fun v24 => bif (v24 == p1) then some true else (addO v18 1).bind fun v26 => (r1_in_l1 p0 p1 g) v26 else r1_in_k1
def s_r1_in (p0 : Str) (p1 : UInt8) : Option Bool := r1_in_l1 p0 p1 FUEL 0
def r1_value_k1 (v159 : Str) : Option (Str × Bool) := some (v159, true)
def r1_value_l1 (p0 : Str) : Nat → Int → Str → Option (Str × Bool)
  | 0, _, _ => none
  | g + 1, v213, v212 => bif (decide (v213 < (p0.length : Int))) then (lgetO p0 v213).bind fun v267 => bif (v267 == 92) then ((addO v213 2).bind fun v269 => bif (decide (v269 < (p0.length : Int))) then (addO v213 1).bind fun v271 => (lgetO p0 v271).bind fun v272 => (s_r1_hex v272).bind fun v273 => bif (decide (v273 ≥ 0)) then (addO v213 2).bind fun v275 => (lgetO p0 v275).bind fun v276 => (s_r1_hex v276).bind fun v277 => some (decide (v277 ≥ 0)) else some false else some false).bind fun v278 => bif v278 then (addO v213 1).bind fun v280 => (lgetO p0 v280).bind fun v281 => (s_r1_hex v281).bind fun v282 => (mulO v282 16).bind fun v283 => (addO v213 2).bind fun v284 => (lgetO p0 v284).bind fun v285 => (s_r1_hex v285).bind fun v286 => (addO v283 v286).bind fun v287 => (appO 1 v212 ([(toU8 v287)] : Str)).bind fun v288 => (addO v213 2).bind fun v289 => (addO v289 1).bind fun v290 => (r1_value_l1 p0 g) v290 v288 else ((addO v213 1).bind fun v291 => bif (decide (v291 ≥ (p0.length : Int))) then some true else (addO v213 1).bind fun v293 => (lgetO p0 v293).bind fun v294 => (s_r1_in k_x2c2b225c3c3e3b3d2320 v294).bind fun v295 => some (!v295)).bind fun v296 => bif v296 then some ([], false) else (addO v213 1).bind fun v298 => (lgetO p0 v298).bind fun v299 => (appO 1 v212 ([v299] : Str)).bind fun v300 => (addO v213 1).bind fun v301 => (addO v301 1).bind fun v302 => (r1_value_l1 p0 g) v302 v300 else (bif (decide (v267 < 32)) then some true else bif (decide (126 < v267)) then some true else (s_r1_in k_x2c2b223c3e3b v267).bind fun v305 => bif v305 then some true else bif (v213 == 0) then bif (v267 == 35) then some true else bif (v267 == 32) then some true else (subO (p0.length : Int) 1).bind fun v310 => bif (v213 == v310) then some (v267 == 32) else some false else (subO (p0.length : Int) 1).bind fun v312 => bif (v213 == v312) then some (v267 == 32) else some false).bind fun v314 => bif v314 then some ([], false) else (appO 1 v212 ([v267] : Str)).bind fun v316 => (addO v213 1).bind fun v317 => (r1_value_l1 p0 g) v317 v316 else r1_value_k1 v212
def s_r1_value (p0 : Str) : Option (Str × Bool) := r1_value_l1 p0 FUEL 0 []
def s_r1_letter (p0 : UInt8) : Option Bool := (bif (decide (97 ≤ p0)) then bif (decide (p0 ≤ 122)) then some true else bif (decide (65 ≤ p0)) then some (decide (p0 ≤ 90)) else some false else bif (decide (65 ≤ p0)) then some (decide (p0 ≤ 90)) else some false).bind fun v5 => some v5
def r1_MayType_k1 : Option Bool := some true
def r1_MayType_l1 (p0 : Str) : Nat → Int → Option Bool
  | 0, _ => none
  | g + 1, v60 => bif (decide (v60 < (p0.length : Int))) then ((lgetO p0 v60).bind fun v75 => (s_r1_letter v75).bind fun v76 => bif (!v76) then (lgetO p0 v60).bind fun v78 => bif (decide (v78 < 48)) then (lgetO p0 v60).bind fun v80 => some (v80 != 45) else (lgetO p0 v60).bind fun v81 => bif (decide (57 < v81)) then (lgetO p0 v60).bind fun v83 => some (v83 != 45) else some false else some false).bind fun v84 => bif v84 then some false else (addO v60 1).bind fun v86 => (r1_MayType_l1 p0 g) v86 else r1_MayType_k1
def s_r1_MayType (p0 : Str) : Option Bool := (bif (p0 == []) then some true else bif (decide ((p0.length : Int) > 30)) then some true else (lgetO p0 0).bind fun v3 => (s_r1_letter v3).bind fun v4 => some (!v4)).bind fun v5 => bif v5 then some false else r1_MayType_l1 p0 FUEL 0
def r1_MayDn_k1 (p0 : List T_Rdn) : Option Bool := some (decide ((p0.length : Int) ≤ 8))
def r1_MayDn_l1 (p0 : List T_Rdn) : Nat → Int → Option Bool
  | 0, _ => none
  | g + 1, v42 => bif (decide (v42 < (p0.length : Int))) then ((lgetO p0 v42).bind fun v54 => (s_r1_MayType v54.Typ).bind fun v55 => bif (!v55) then some true else (lgetO p0 v42).bind fun v57 => bif (v57.Val == []) then some true else (lgetO p0 v42).bind fun v59 => some (decide ((v59.Val.length : Int) > 100))).bind fun v60 => bif v60 then some false else (addO v42 1).bind fun v62 => (r1_MayDn_l1 p0 g) v62 else r1_MayDn_k1 p0
def s_r1_MayDn (p0 : List T_Rdn) : Option Bool := r1_MayDn_l1 p0 FUEL 0
def r1_ParseDn_k1 (v344 : List T_Rdn) : Option T_R1Dn := (s_r1_MayDn v344).bind fun v345 => bif (!v345) then some (⟨[], false⟩ : T_R1Dn) else some (⟨v344, true⟩ : T_R1Dn)
def r1_ParseDn_k2 (v461 : Int) (K1 : Int → List T_Rdn → Option T_R1Dn) (v631 : List T_Rdn) : Option T_R1Dn := (addO v461 1).bind fun v632 => K1 v632 v631
def r1_ParseDn_k3 (v2 : List Str) (v460 : List T_Rdn) (v461 : Int) (K1 : Int → List T_Rdn → Option T_R1Dn) (v655 : Int) : Option T_R1Dn := (lgetO v2 v461).bind fun v656 => bif (v655 == (v656.length : Int)) then some (⟨[], false⟩ : T_R1Dn) else (lgetO v2 v461).bind fun v658 => (addO v655 1).bind fun v659 => (lsubO v658 v659 v658.length).bind fun v660 => (s_r1_value v660).bind fun v661 => bif (!v661.2) then some (⟨[], false⟩ : T_R1Dn) else (lgetO v2 v461).bind fun v663 => (lsubO v663 0 v655).bind fun v664 => (appO 32 v460 ([(⟨v664, v661.1⟩ : T_Rdn)] : List T_Rdn)).bind fun v665 => r1_ParseDn_k2 v461 K1 v665
def r1_ParseDn_l2 (v2 : List Str) (v460 : List T_Rdn) (v461 : Int) (K1 : Int → List T_Rdn → Option T_R1Dn) : Nat → Int → Option T_R1Dn
  | 0, _ => none
  | g + 1, v673 => ((lgetO v2 v461).bind fun v681 => bif (decide (v673 < (v681.length : Int))) then (lgetO v2 v461).bind fun v683 => (lgetO v683 v673).bind fun v684 => some (v684 != 61) else some false).bind fun v685 => bif v685 then (addO v673 1).bind fun v687 => (r1_ParseDn_l2 v2 v460 v461 K1 g) v687 else r1_ParseDn_k3 v2 v460 v461 K1 v673
def r1_ParseDn_l1 (v2 : List Str) : Nat → Int → List T_Rdn → Option T_R1Dn
  | 0, _, _ => none
  | g + 1, v461, v460 => bif (decide (v461 < (v2.length : Int))) then r1_ParseDn_l2 v2 v460 v461 (r1_ParseDn_l1 v2 g) FUEL 0 else r1_ParseDn_k1 v460
def s_r1_ParseDn (p0 : Str) : Option T_R1Dn := bif (p0 == []) then some (⟨[], true⟩ : T_R1Dn) else (s_r1_cut p0).bind fun v2 => r1_ParseDn_l1 v2 FUEL 0 []
def r1_Fold_k1 (v41 : Str) : Option Str := some v41
def r1_Fold_l1 (v1 : Str) : Nat → Str → Bool → Int → Option Str
  | 0, _, _, _ => none
  | g + 1, v52, v50, v51 => bif (decide (v51 < (v1.length : Int))) then (lgetO v1 v51).bind fun v68 => bif (v68 == 32) then (addO v51 1).bind fun v70 => (r1_Fold_l1 v1 g) v52 (!(v52 == [])) v70 else bif v50 then (catO v52 k_x20).bind fun v72 => (addO v51 1).bind fun v73 => (lsubO v1 v51 v73).bind fun v74 => (catO v72 v74).bind fun v75 => (addO v51 1).bind fun v76 => (r1_Fold_l1 v1 g) v75 false v76 else (addO v51 1).bind fun v77 => (lsubO v1 v51 v77).bind fun v78 => (catO v52 v78).bind fun v79 => (addO v51 1).bind fun v80 => (r1_Fold_l1 v1 g) v79 v50 v80 else r1_Fold_k1 v52
def s_r1_Fold (p0 : Str) : Option Str := (s_r1_Lower p0).bind fun v1 => r1_Fold_l1 v1 FUEL [] false 0
def s_r1_two (p0 : UInt8) : Option Str := (arU .quo p0 16).bind fun v1 => (arU .quo p0 16).bind fun v2 => (lsubO k_0123456789abcdef (v1.toNat : Int) ((v2 + 1).toNat : Int)).bind fun v3 => (catO k_x5c v3).bind fun v4 => (arU .rem p0 16).bind fun v5 => (arU .rem p0 16).bind fun v6 => (lsubO k_0123456789abcdef (v5.toNat : Int) ((v6 + 1).toNat : Int)).bind fun v7 => (catO v4 v7).bind fun v8 => some v8
def r1_escaped_k1 (v87 : Str) : Option Str := some v87
def r1_escaped_l1 (p0 : Str) : Nat → Str → Int → Option Str
  | 0, _, _ => none
  | g + 1, v116, v117 => bif (decide (v117 < (p0.length : Int))) then (lgetO p0 v117).bind fun v147 => (bif (decide (v147 < 32)) then some true else some (decide (126 < v147))).bind fun v149 => bif v149 then (s_r1_two v147).bind fun v151 => (catO v116 v151).bind fun v152 => (addO v117 1).bind fun v153 => (r1_escaped_l1 p0 g) v152 v153 else ((s_r1_in k_x2c2b225c3c3e3b v147).bind fun v154 => bif v154 then some true else bif (v117 == 0) then bif (v147 == 35) then some true else bif (v147 == 32) then some true else (subO (p0.length : Int) 1).bind fun v159 => bif (v117 == v159) then some (v147 == 32) else some false else (subO (p0.length : Int) 1).bind fun v161 => bif (v117 == v161) then some (v147 == 32) else some false).bind fun v163 => bif v163 then (catO v116 k_x5c).bind fun v165 => (addO v117 1).bind fun v166 => (lsubO p0 v117 v166).bind fun v167 => (catO v165 v167).bind fun v168 => (addO v117 1).bind fun v169 => (r1_escaped_l1 p0 g) v168 v169 else (addO v117 1).bind fun v170 => (lsubO p0 v117 v170).bind fun v171 => (catO v116 v171).bind fun v172 => (addO v117 1).bind fun v173 => (r1_escaped_l1 p0 g) v172 v173 else r1_escaped_k1 v116
def s_r1_escaped (p0 : Str) : Option Str := r1_escaped_l1 p0 FUEL [] 0
def r1_TextDn_k1 (v42 : Str) : Option Str := some v42
def r1_TextDn_k2 (p0 : List T_Rdn) (v57 : Int) (K1 : Str → Int → Option Str) (v74 : Str) : Option Str := (lgetO p0 v57).bind fun v75 => (catO v74 v75.Typ).bind fun v76 => (catO v76 k_x3d).bind fun v77 => (lgetO p0 v57).bind fun v78 => (s_r1_escaped v78.Val).bind fun v79 => (catO v77 v79).bind fun v80 => (addO v57 1).bind fun v81 => K1 v80 v81
def r1_TextDn_l1 (p0 : List T_Rdn) : Nat → Str → Int → Option Str
  | 0, _, _ => none
  | g + 1, v56, v57 => bif (decide (v57 < (p0.length : Int))) then bif (decide (v57 > 0)) then (catO v56 k_x2c).bind fun v83 => r1_TextDn_k2 p0 v57 (r1_TextDn_l1 p0 g) v83 else r1_TextDn_k2 p0 v57 (r1_TextDn_l1 p0 g) v56 else r1_TextDn_k1 v56
def s_r1_TextDn (p0 : List T_Rdn) : Option Str := r1_TextDn_l1 p0 FUEL [] 0
def r1_Key_k1 (v29 : List T_Rdn) : Option T_R1Said := (s_r1_TextDn v29).bind fun v30 => some (⟨v30, true⟩ : T_R1Said)
def r1_Key_l1 (v1 : T_R1Dn) : Nat → Int → List T_Rdn → Option T_R1Said
  | 0, _, _ => none
  | g + 1, v40, v39 => bif (decide (v40 < (v1.L.length : Int))) then (lgetO v1.L v40).bind fun v50 => (s_r1_Lower v50.Typ).bind fun v51 => (lgetO v1.L v40).bind fun v52 => (s_r1_Fold v52.Val).bind fun v53 => bif (v53 == []) then some (⟨[], false⟩ : T_R1Said) else (appO 32 v39 ([(⟨v51, v53⟩ : T_Rdn)] : List T_Rdn)).bind fun v55 => (addO v40 1).bind fun v56 => (r1_Key_l1 v1 g) v56 v55 else r1_Key_k1 v39
def s_r1_Key (p0 : Str) : Option T_R1Said := (s_r1_ParseDn p0).bind fun v1 => bif (!v1.Ok) then some (⟨[], false⟩ : T_R1Said) else r1_Key_l1 v1 FUEL 0 []
def s_r1_Rule (p0 : Str) : Option Int := (s_r1_Lower p0).bind fun v1 => bif (v1 == k_objectclass) then some 1 else bif (v1 == k_cn) then some 1 else bif (v1 == k_sn) then some 1 else bif (v1 == k_o) then some 1 else bif (v1 == k_ou) then some 1 else bif (v1 == k_uid) then some 1 else bif (v1 == k_mail) then some 1 else bif (v1 == k_description) then some 1 else bif (v1 == k_uidnumber) then some 2 else bif (v1 == k_member) then some 3 else bif (v1 == k_userpassword) then some 4 else some 0
def r1_attr_k1 : Option Int := some (-1)
def r1_attr_l1 (p0 : T_Entry) (p1 : Str) : Nat → Int → Option Int
  | 0, _ => none
  | g + 1, v26 => bif (decide (v26 < (p0.Attrs.length : Int))) then (lgetO p0.Attrs v26).bind fun v34 => (s_r1_Lower v34.Typ).bind fun v35 => (s_r1_Lower p1).bind fun v36 => bif (v35 == v36) then some v26 else (addO v26 1).bind fun v38 => (r1_attr_l1 p0 p1 g) v38 else r1_attr_k1
def s_r1_attr (p0 : T_Entry) (p1 : Str) : Option Int := r1_attr_l1 p0 p1 FUEL 0
def r1_Digits_k2 (p0 : Int) (v19 : Int) (v20 : Str) : Option Str := (arZ .add .u64 48 v19).bind fun v21 => (catO [(toU8 v21)] v20).bind fun v22 => bif (decide (p0 < 0)) then (catO k_x2d v22).bind fun v24 => some v24 else some v22
def r1_Digits_l1 (p0 : Int) : Nat → Int → Str → Option Str
  | 0, _, _ => none
  | g + 1, v30, v31 => bif (decide (v30 ≥ 10)) then (arZ .rem .u64 v30 10).bind fun v38 => (arZ .add .u64 48 v38).bind fun v39 => (catO [(toU8 v39)] v31).bind fun v40 => (arZ .quo .u64 v30 10).bind fun v41 => (r1_Digits_l1 p0 g) v41 v40 else r1_Digits_k2 p0 v30 v31
def r1_Digits_k1 (p0 : Int) (v1 : Int) : Option Str := r1_Digits_l1 p0 FUEL v1 []
def s_r1_Digits (p0 : Int) : Option Str := bif (decide (p0 < 0)) then r1_Digits_k1 p0 (IntKind.wrap .u64 (0 - (IntKind.wrap .u64 p0))) else r1_Digits_k1 p0 (IntKind.wrap .u64 p0)
def r1_Number_k2 (p0 : Str) (v4 : Int) (v41 : Int) : Option T_R1Num := bif (v4 == 1) then (s_r1_Digits (IntKind.wrap .i64 (0 - v41))).bind fun v43 => bif (!(v43 == p0)) then some (⟨0, false⟩ : T_R1Num) else some (⟨(IntKind.wrap .i64 (0 - v41)), true⟩ : T_R1Num) else (s_r1_Digits v41).bind fun v45 => bif (!(v45 == p0)) then some (⟨0, false⟩ : T_R1Num) else some (⟨v41, true⟩ : T_R1Num)
def r1_Number_l1 (p0 : Str) (v4 : Int) : Nat → Int → Int → Option T_R1Num
  | 0, _, _ => none
  | g + 1, v57, v58 => bif (decide (v58 < (p0.length : Int))) then ((lgetO p0 v58).bind fun v70 => bif (decide (v70 < 48)) then some true else (lgetO p0 v58).bind fun v72 => some (decide (57 < v72))).bind fun v73 => bif v73 then some (⟨0, false⟩ : T_R1Num) else (mulO v57 10).bind fun v75 => (lgetO p0 v58).bind fun v76 => (addO v75 ((v76 - 48).toNat : Int)).bind fun v77 => (addO v58 1).bind fun v78 => (r1_Number_l1 p0 v4 g) v77 v78 else r1_Number_k2 p0 v4 v57
def r1_Number_k1 (p0 : Str) (v4 : Int) : Option T_R1Num := (bif ((p0.length : Int) == v4) then some true else (subO (p0.length : Int) v4).bind fun v6 => some (decide (v6 > 15))).bind fun v7 => bif v7 then some (⟨0, false⟩ : T_R1Num) else r1_Number_l1 p0 v4 FUEL 0 v4
def s_r1_Number (p0 : Str) : Option T_R1Num := (bif (!(p0 == [])) then (lgetO p0 0).bind fun v2 => some (v2 == 45) else some false).bind fun v3 => bif v3 then r1_Number_k1 p0 1 else r1_Number_k1 p0 0
def s_r1_Norm (p0 : Str) (p1 : Str) : Option T_R1Said := (bif (p1 == []) then some true else some (decide ((p1.length : Int) > 100))).bind fun v2 => bif v2 then some (⟨[], false⟩ : T_R1Said) else (s_r1_Rule p0).bind fun v4 => bif (v4 == 1) then (s_r1_Fold p1).bind fun v6 => some (⟨v6, (!(v6 == []))⟩ : T_R1Said) else bif (v4 == 2) then (s_r1_Number p1).bind fun v8 => bif v8.Ok then some (⟨p1, true⟩ : T_R1Said) else some (⟨[], false⟩ : T_R1Said) else bif (v4 == 3) then (s_r1_Key p1).bind fun v11 => (bif v11.Ok then some (!(v11.S == [])) else some false).bind fun v13 => bif v13 then some v11 else some (⟨[], false⟩ : T_R1Said) else bif (v4 == 4) then some (⟨p1, true⟩ : T_R1Said) else some (⟨[], false⟩ : T_R1Said)
def s_r1_SameVal (p0 : Str) (p1 : Str) (p2 : Str) : Option Bool := (s_r1_Norm p0 p1).bind fun v1 => (s_r1_Norm p0 p2).bind fun v2 => (bif v1.Ok then bif v2.Ok then some (v1.S == v2.S) else some false else some false).bind fun v5 => some v5
def r1_attrs_k1 : Option Int := some 0
def r1_attrs_k2 (v4114 : Int) (K1 : Int → Option Int) : Option Int := (addO v4114 1).bind fun v5657 => K1 v5657
def r1_attrs_k4 (v4114 : Int) (K1 : Int → Option Int) : Option Int := r1_attrs_k2 v4114 K1
def r1_attrs_k5 (v5998 : Int) (K2 : Int → Option Int) : Option Int := (addO v5998 1).bind fun v6116 => K2 v6116
def r1_attrs_k6 (v5998 : Int) (K2 : Int → Option Int) : Option Int := r1_attrs_k5 v5998 K2
def r1_attrs_l3 (v5658 : T_Attr) (v5998 : Int) (K2 : Int → Option Int) : Nat → Int → Option Int
  | 0, _ => none
  | g + 1, v6142 => bif (decide (v6142 < v5998)) then (lgetO v5658.Vals v6142).bind fun v6150 => (lgetO v5658.Vals v5998).bind fun v6151 => (s_r1_SameVal v5658.Typ v6150 v6151).bind fun v6152 => bif v6152 then some 20 else (addO v6142 1).bind fun v6154 => (r1_attrs_l3 v5658 v5998 K2 g) v6154 else r1_attrs_k6 v5998 K2
def r1_attrs_l2 (v4114 : Int) (K1 : Int → Option Int) (v5658 : T_Attr) : Nat → Int → Option Int
  | 0, _ => none
  | g + 1, v5998 => bif (decide (v5998 < (v5658.Vals.length : Int))) then r1_attrs_l3 v5658 v5998 (r1_attrs_l2 v4114 K1 v5658 g) FUEL 0 else r1_attrs_k4 v4114 K1
def r1_attrs_k3 (v4114 : Int) (K1 : Int → Option Int) (v5658 : T_Attr) : Option Int := r1_attrs_l2 v4114 K1 v5658 FUEL 0
def r1_attrs_l4 (v4114 : Int) (K1 : Int → Option Int) (v5658 : T_Attr) : Nat → Int → Option Int
  | 0, _ => none
  | g + 1, v6160 => bif (decide (v6160 < (v5658.Vals.length : Int))) then (lgetO v5658.Vals v6160).bind fun v6167 => (s_r1_Norm v5658.Typ v6167).bind fun v6168 => bif (!v6168.Ok) then some 21 else (addO v6160 1).bind fun v6170 => (r1_attrs_l4 v4114 K1 v5658 g) v6170 else r1_attrs_k3 v4114 K1 v5658
def r1_attrs_l1 (p0 : T_Entry) : Nat → Int → Option Int
  | 0, _ => none
  | g + 1, v4114 => bif (decide (v4114 < (p0.Attrs.length : Int))) then (lgetO p0.Attrs v4114).bind fun v5658 => (s_r1_Rule v5658.Typ).bind fun v5659 => bif (v5659 == 0) then some 17 else (s_r1_attr p0 v5658.Typ).bind fun v5661 => bif (decide (v5661 < v4114)) then some 20 else (bif ((v5658.Vals.length : Int) == 0) then some true else bif (decide ((v5658.Vals.length : Int) > 40)) then some true else (s_r1_Rule v5658.Typ).bind fun v5665 => bif (v5665 == 2) then some (decide ((v5658.Vals.length : Int) > 1)) else some false).bind fun v5667 => bif v5667 then some 19 else r1_attrs_l4 v4114 (r1_attrs_l1 p0 g) v5658 FUEL 0 else r1_attrs_k1
def s_r1_attrs (p0 : T_Entry) : Option Int := r1_attrs_l1 p0 FUEL 0
def s_r1_Vals (p0 : T_Entry) (p1 : Str) : Option (List Str) := (s_r1_attr p0 p1).bind fun v1 => bif (decide (v1 < 0)) then some [] else (lgetO p0.Attrs v1).bind fun v3 => some v3.Vals
def r1_Among_k1 : Option Bool := some false
def r1_Among_l1 (p0 : List Str) (p1 : Str) : Nat → Int → Option Bool
  | 0, _ => none
  | g + 1, v18 => bif (decide (v18 < (p0.length : Int))) then (lgetO p0 v18).bind fun v24 => bif (v24 == p1) then some true else (addO v18 1).bind fun v26 => (r1_Among_l1 p0 p1 g) v26 else r1_Among_k1
def s_r1_Among (p0 : List Str) (p1 : Str) : Option Bool := r1_Among_l1 p0 p1 FUEL 0
def r1_classes_k3 (v309 : Bool) : Option Bool := some v309
def r1_classes_l1 (p0 : T_Entry) (v307 : List Str) (v308 : List Str) (v309 : Bool) : Nat → Int → Option Bool
  | 0, _ => none
  | g + 1, v363 => bif (decide (v363 < (p0.Attrs.length : Int))) then (lgetO p0.Attrs v363).bind fun v374 => (s_r1_Lower v374.Typ).bind fun v375 => ((s_r1_Among v307 v375).bind fun v376 => bif (!v376) then (s_r1_Among v308 v375).bind fun v378 => some (!v378) else some false).bind fun v379 => bif v379 then some false else (addO v363 1).bind fun v381 => (r1_classes_l1 p0 v307 v308 v309 g) v381 else r1_classes_k3 v309
def r1_classes_k2 (p0 : T_Entry) (v307 : List Str) (v308 : List Str) (v309 : Bool) : Option Bool := r1_classes_l1 p0 v307 v308 v309 FUEL 0
def r1_classes_l2 (p0 : T_Entry) (v307 : List Str) (v308 : List Str) (v309 : Bool) : Nat → Int → Option Bool
  | 0, _ => none
  | g + 1, v387 => bif (decide (v387 < (v307.length : Int))) then (lgetO v307 v387).bind fun v394 => (s_r1_attr p0 v394).bind fun v395 => bif (decide (v395 < 0)) then some false else (addO v387 1).bind fun v397 => (r1_classes_l2 p0 v307 v308 v309 g) v397 else r1_classes_k2 p0 v307 v308 v309
def r1_classes_k1 (p0 : T_Entry) (v309 : Bool) (v307 : List Str) (v308 : List Str) : Option Bool := r1_classes_l2 p0 v307 v308 v309 FUEL 0
def r1_classes_k4 (v500 : Int) (K3 : Bool → Int → List Str → List Str → Option Bool) (v653 : Bool) (v651 : List Str) (v652 : List Str) : Option Bool := (addO v500 1).bind fun v654 => K3 v653 v654 v651 v652
def r1_classes_k5 (v500 : Int) (K3 : Bool → Int → List Str → List Str → Option Bool) (v660 : Bool) (v681 : List Str) (v682 : List Str) : Option Bool := r1_classes_k4 v500 K3 v660 v681 v682
def r1_classes_l4 (v500 : Int) (K3 : Bool → Int → List Str → List Str → Option Bool) (v660 : Bool) : Nat → List Str → List Str → Str → Str → Bool → List Str → List Str → Bool → Option Bool
  | 0, _, _, _, _, _, _, _, _ => none
  | g + 1, v687, v688, v689, v690, v691, v692, v693, v694 => bif v694 then (appO 16 v687 v692).bind fun v700 => (appO 16 v688 v693).bind fun v701 => (s_r1_FindClass v690).bind fun v702 => (r1_classes_l4 v500 K3 v660 g) v700 v701 v702.C.Name v702.C.Sup v702.C.Structural v702.C.Must v702.C.May v702.Ok else r1_classes_k5 v500 K3 v660 v687 v688
def r1_classes_l3 (p0 : T_Entry) (v1 : List Str) : Nat → Bool → Int → List Str → List Str → Option Bool
  | 0, _, _, _, _ => none
  | g + 1, v499, v500, v497, v498 => bif (decide (v500 < (v1.length : Int))) then (lgetO v1 v500).bind fun v655 => (s_r1_Fold v655).bind fun v656 => (s_r1_FindClass v656).bind fun v657 => bif (!v657.Ok) then some false else (bif v499 then some true else some v657.C.Structural).bind fun v660 => r1_classes_l4 v500 (r1_classes_l3 p0 v1 g) v660 FUEL v497 v498 v657.C.Name v657.C.Sup v657.C.Structural v657.C.Must v657.C.May v657.Ok else r1_classes_k1 p0 v499 v497 v498
def s_r1_classes (p0 : T_Entry) : Option Bool := (s_r1_Vals p0 k_objectclass).bind fun v1 => r1_classes_l3 p0 v1 FUEL false 0 [] []
def r1_Has_k1 : Option Bool := some false
def r1_Has_l1 (p1 : Str) (p2 : Str) (v1 : List Str) : Nat → Int → Option Bool
  | 0, _ => none
  | g + 1, v23 => bif (decide (v23 < (v1.length : Int))) then (lgetO v1 v23).bind fun v30 => (s_r1_SameVal p1 v30 p2).bind fun v31 => bif v31 then some true else (addO v23 1).bind fun v33 => (r1_Has_l1 p1 p2 v1 g) v33 else r1_Has_k1
def s_r1_Has (p0 : T_Entry) (p1 : Str) (p2 : Str) : Option Bool := (s_r1_Vals p0 p1).bind fun v1 => r1_Has_l1 p1 p2 v1 FUEL 0
def s_r1_Check (p0 : T_Entry) : Option Int := (s_r1_ParseDn p0.Dn).bind fun v1 => (bif (!v1.Ok) then some true else bif ((v1.L.length : Int) == 0) then some true else (s_r1_Key p0.Dn).bind fun v4 => some (!v4.Ok)).bind fun v5 => bif v5 then some 34 else bif (decide ((p0.Attrs.length : Int) > 20)) then some 19 else (s_r1_attrs p0).bind fun v8 => bif (v8 != 0) then some v8 else (s_r1_classes p0).bind fun v10 => bif (!v10) then some 65 else (lgetO v1.L 0).bind fun v12 => (lgetO v1.L 0).bind fun v13 => (s_r1_Has p0 v12.Typ v13.Val).bind fun v14 => bif (!v14) then some 64 else some 0
def r1_Texts_k1 : Option Bool := some true
def r1_Texts_l1 (p0 : List Str) (p1 : List Str) : Nat → Int → Option Bool
  | 0, _ => none
  | g + 1, v23 => bif (decide (v23 < (p0.length : Int))) then (lgetO p0 v23).bind fun v30 => (lgetO p1 v23).bind fun v31 => bif (!(v30 == v31)) then some false else (addO v23 1).bind fun v33 => (r1_Texts_l1 p0 p1 g) v33 else r1_Texts_k1
def s_r1_Texts (p0 : List Str) (p1 : List Str) : Option Bool := bif ((p0.length : Int) != (p1.length : Int)) then some false else r1_Texts_l1 p0 p1 FUEL 0
end Go.Ka
namespace Go.Ka
def s_dn_lower (p0 : UInt8) : Option UInt8 := (bif (decide (65 ≤ p0)) then some (decide (p0 ≤ 90)) else some false).bind fun v2 => bif v2 then some (p0 + 32) else some p0
def s_dn_letter (p0 : UInt8) : Option Bool := ((s_dn_lower p0).bind fun v1 => bif (decide (97 ≤ v1)) then (s_dn_lower p0).bind fun v3 => some (decide (v3 ≤ 122)) else some false).bind fun v4 => some v4
def dn_typed_k1 : Option Bool := some true
def dn_typed_l1 (v7 : Str) : Nat → Int → Option Bool
  | 0, _ => none
  | g + 1, v45 => bif (decide (v45 < (v7.length : Int))) then (lgetO v7 v45).bind fun v56 => ((s_dn_letter v56).bind fun v57 => bif (!v57) then bif (decide (48 ≤ v56)) then bif (!(decide (v56 ≤ 57))) then some (v56 != 45) else some false else some (v56 != 45) else some false).bind fun v61 => bif v61 then some false else (addO v45 1).bind fun v63 => (dn_typed_l1 v7 g) v63 else dn_typed_k1
def s_dn_typed (p0 : Str) : Option Bool := (bif (p0 == []) then some true else bif (decide ((p0.length : Int) > 30)) then some true else (lgetO p0 0).bind fun v3 => (s_dn_letter v3).bind fun v4 => some (!v4)).bind fun v5 => bif v5 then some false else (bytO p0).bind fun v7 => dn_typed_l1 v7 FUEL 0
def s_dn_special (p0 : UInt8) : Option Bool := (s_indexByte k_x2c2b225c3c3e3b p0).bind fun v1 => some (decide (v1 ≥ 0))
def s_dn_digit (p0 : UInt8) : Option Int := (s_dn_lower p0).bind fun v1 => (s_indexByte k_0123456789abcdef v1).bind fun v2 => some v2
def s_dn_escaped (p0 : Str) : Option (UInt8 × Int) := bif (p0 == []) then some (0, 0) else ((lgetO p0 0).bind fun v2 => (s_dn_special v2).bind fun v3 => bif v3 then some true else (lgetO p0 0).bind fun v5 => bif (v5 == 61) then some true else (lgetO p0 0).bind fun v7 => bif (v7 == 35) then some true else (lgetO p0 0).bind fun v9 => some (v9 == 32)).bind fun v10 => bif v10 then (lgetO p0 0).bind fun v12 => some (v12, 1) else (bif (decide ((p0.length : Int) > 1)) then (lgetO p0 0).bind fun v14 => (s_dn_digit v14).bind fun v15 => bif (decide (v15 ≥ 0)) then (lgetO p0 1).bind fun v17 => (s_dn_digit v17).bind fun v18 => some (decide (v18 ≥ 0)) else some false else some false).bind fun v19 => bif v19 then (lgetO p0 0).bind fun v21 => (s_dn_digit v21).bind fun v22 => (shZ .shl .i64 v22 4).bind fun v23 => (lgetO p0 1).bind fun v24 => (s_dn_digit v24).bind fun v25 => some ((toU8 (pbits .or .i64 v23 v25)), 2) else some (0, 0)
def dn_value_k1 (p0 : Str) (v74 : Bool) (v75 : Int) (v73 : Str) : Option (Str × Str × Bool) := (lsubO p0 v75 p0.length).bind fun v76 => some (v73, v76, (!v74))
def dn_value_l1 (p0 : Str) : Nat → Bool → Int → Str → Option (Str × Str × Bool)
  | 0, _, _, _ => none
  | g + 1, v101, v102, v100 => (bif (decide (v102 < (p0.length : Int))) then (lgetO p0 v102).bind fun v127 => some (v127 != 44) else some false).bind fun v128 => bif v128 then (lgetO p0 v102).bind fun v130 => bif (v130 == 92) then (addO v102 1).bind fun v132 => (lsubO p0 v132 p0.length).bind fun v133 => (s_dn_escaped v133).bind fun v134 => bif (v134.2 == 0) then some ([], [], false) else (addO v102 v134.2).bind fun v136 => (appO 1 v100 ([v134.1] : Str)).bind fun v137 => (addO v136 1).bind fun v138 => (dn_value_l1 p0 g) (v130 == 32) v138 v137 else (bif (decide (v130 < 32)) then some true else bif (decide (126 < v130)) then some true else (s_dn_special v130).bind fun v141 => bif v141 then some true else bif (v102 == 0) then bif (v130 == 35) then some true else some (v130 == 32) else some false).bind fun v145 => bif v145 then some ([], [], false) else (appO 1 v100 ([v130] : Str)).bind fun v147 => (addO v102 1).bind fun v148 => (dn_value_l1 p0 g) (v130 == 32) v148 v147 else dn_value_k1 p0 v101 v102 v100
def s_dn_value (p0 : Str) : Option (Str × Str × Bool) := dn_value_l1 p0 FUEL false 0 []
def dn_May_k1 (p0 : List T_Rdn) : Option Bool := some (decide ((p0.length : Int) ≤ 8))
def dn_May_l1 (p0 : List T_Rdn) : Nat → Int → Option Bool
  | 0, _ => none
  | g + 1, v34 => bif (decide (v34 < (p0.length : Int))) then (lgetO p0 v34).bind fun v44 => ((s_dn_typed v44.Typ).bind fun v45 => bif (!v45) then some true else bif (v44.Val == []) then some true else some (decide ((v44.Val.length : Int) > 100))).bind fun v48 => bif v48 then some false else (addO v34 1).bind fun v50 => (dn_May_l1 p0 g) v50 else dn_May_k1 p0
def s_dn_May (p0 : List T_Rdn) : Option Bool := dn_May_l1 p0 FUEL 0
def dn_Parse_k1 (v40 : List T_Rdn) : Option (List T_Rdn × Bool) := (s_dn_May v40).bind fun v41 => bif (!v41) then some ([], false) else some (v40, true)
def dn_Parse_l1 : Nat → Str → Bool → List T_Rdn → Option (List T_Rdn × Bool)
  | 0, _, _, _ => none
  | g + 1, v55, v57, v56 => bif v57 then (s_strings_Cut v55 k_x3d).bind fun v71 => (bif (!v71.2.2) then some true else (s_dn_typed v71.1).bind fun v73 => bif (!v73) then some true else some ((v56.length : Int) == 8)).bind fun v75 => bif v75 then some ([], false) else (s_dn_value v71.2.1).bind fun v77 => bif (!v77.2.2) then some ([], false) else (appO 32 v56 ([(⟨v71.1, v77.1⟩ : T_Rdn)] : List T_Rdn)).bind fun v79 => bif (!(v77.2.1 == [])) then (lsubO v77.2.1 1 v77.2.1.length).bind fun v81 => (dn_Parse_l1 g) v81 (!(v77.2.1 == [])) v79 else (dn_Parse_l1 g) v77.2.1 (!(v77.2.1 == [])) v79 else dn_Parse_k1 v56
def s_dn_Parse (p0 : Str) : Option (List T_Rdn × Bool) := dn_Parse_l1 FUEL p0 (!(p0 == [])) []
def dn_lowered_k1 (v19 : Str) : Option Str := some v19
def dn_lowered_l1 (v1 : Str) : Nat → Int → Str → Option Str
  | 0, _, _ => none
  | g + 1, v26, v25 => bif (decide (v26 < (v1.length : Int))) then (lgetO v25 v26).bind fun v33 => (s_dn_lower v33).bind fun v34 => (lgetO v25 v26).bind fun v35 => (addO v26 1).bind fun v36 => (dn_lowered_l1 v1 g) v36 (v25.set v26.toNat v34) else dn_lowered_k1 v25
def s_dn_lowered (p0 : Str) : Option Str := (bytO p0).bind fun v1 => dn_lowered_l1 v1 FUEL 0 v1
def dn_Fold_k1 (v35 : Str) : Option Str := some v35
def dn_Fold_l1 (v3 : Str) : Nat → Int → Str → Option Str
  | 0, _, _ => none
  | g + 1, v45, v46 => bif (decide (v45 < (v3.length : Int))) then (lgetO v3 v45).bind fun v58 => (bif (v58 == 32) then (subO (v46.length : Int) 1).bind fun v60 => (lgetO v46 v60).bind fun v61 => some (v61 == 32) else some false).bind fun v62 => bif v62 then (addO v45 1).bind fun v64 => (dn_Fold_l1 v3 g) v64 v46 else (appO 1 v46 ([v58] : Str)).bind fun v65 => (addO v45 1).bind fun v66 => (dn_Fold_l1 v3 g) v66 v65 else dn_Fold_k1 v46
def s_dn_Fold (p0 : Str) : Option Str := (s_trim p0 k_x20).bind fun v1 => (s_dn_lowered v1).bind fun v2 => (bytO v2).bind fun v3 => dn_Fold_l1 v3 FUEL 0 []
def dn_Text_k1 (v1206 : Str) : Option Str := (s_strings_Builder_String v1206).bind fun v1207 => some v1207
def dn_Text_k2 (v1610 : Int) (K1 : Int → Str → Option Str) (v2212 : Str) : Option Str := (addO v1610 1).bind fun v2213 => K1 v2213 v2212
def dn_Text_k4 (v1610 : Int) (K1 : Int → Str → Option Str) (v2315 : Str) : Option Str := dn_Text_k2 v1610 K1 v2315
def dn_Text_l2 (v1610 : Int) (K1 : Int → Str → Option Str) (v2214 : T_Rdn) : Nat → Int → Str → Option Str
  | 0, _, _ => none
  | g + 1, v2348, v2347 => bif (decide (v2348 < (v2214.Val.length : Int))) then (lgetO v2214.Val v2348).bind fun v2381 => (bif (decide (v2381 < 32)) then some true else some (decide (126 < v2381))).bind fun v2383 => bif v2383 then (shU .shr v2381 4).bind fun v2385 => (lgetO k_0123456789abcdef (v2385.toNat : Int)).bind fun v2386 => (lgetO k_0123456789abcdef ((v2381 &&& 15).toNat : Int)).bind fun v2387 => (s_strings_Builder_Write v2347 ([92, v2386, v2387] : Str)).bind fun v2388 => (addO v2348 1).bind fun v2389 => (dn_Text_l2 v1610 K1 v2214 g) v2389 v2388.1 else (s_dn_special v2381).bind fun v2390 => bif v2390 then (s_strings_Builder_WriteByte v2347 92).bind fun v2392 => (s_strings_Builder_WriteByte v2392.1 v2381).bind fun v2393 => (addO v2348 1).bind fun v2394 => (dn_Text_l2 v1610 K1 v2214 g) v2394 v2393.1 else (bif (v2348 == 0) then bif (v2381 == 35) then some true else some (v2381 == 32) else some false).bind fun v2397 => bif v2397 then (s_strings_Builder_WriteByte v2347 92).bind fun v2399 => (s_strings_Builder_WriteByte v2399.1 v2381).bind fun v2400 => (addO v2348 1).bind fun v2401 => (dn_Text_l2 v1610 K1 v2214 g) v2401 v2400.1 else ((subO (v2214.Val.length : Int) 1).bind fun v2402 => bif (v2348 == v2402) then some (v2381 == 32) else some false).bind fun v2404 => bif v2404 then (s_strings_Builder_WriteByte v2347 92).bind fun v2406 => (s_strings_Builder_WriteByte v2406.1 v2381).bind fun v2407 => (addO v2348 1).bind fun v2408 => (dn_Text_l2 v1610 K1 v2214 g) v2408 v2407.1 else (s_strings_Builder_WriteByte v2347 v2381).bind fun v2409 => (addO v2348 1).bind fun v2410 => (dn_Text_l2 v1610 K1 v2214 g) v2410 v2409.1 else dn_Text_k4 v1610 K1 v2347
def dn_Text_k3 (v1610 : Int) (K1 : Int → Str → Option Str) (v2214 : T_Rdn) (v2217 : Str) : Option Str := (s_strings_Builder_WriteString v2217 v2214.Typ).bind fun v2218 => (s_strings_Builder_WriteByte v2218.1 61).bind fun v2219 => dn_Text_l2 v1610 K1 v2214 FUEL 0 v2219.1
def dn_Text_l1 (p0 : List T_Rdn) : Nat → Int → Str → Option Str
  | 0, _, _ => none
  | g + 1, v1610, v1609 => bif (decide (v1610 < (p0.length : Int))) then (lgetO p0 v1610).bind fun v2214 => bif (decide (v1610 > 0)) then (s_strings_Builder_WriteByte v1609 44).bind fun v2412 => dn_Text_k3 v1610 (dn_Text_l1 p0 g) v2214 v2412.1 else dn_Text_k3 v1610 (dn_Text_l1 p0 g) v2214 v1609 else dn_Text_k1 v1609
def s_dn_Text (p0 : List T_Rdn) : Option Str := dn_Text_l1 p0 FUEL 0 []
def dn_Key_k1 (v35 : List T_Rdn) : Option (Str × Bool) := (s_dn_Text v35).bind fun v36 => some (v36, true)
def dn_Key_l1 (v1 : List T_Rdn × Bool) : Nat → Int → List T_Rdn → Option (Str × Bool)
  | 0, _, _ => none
  | g + 1, v48, v47 => bif (decide (v48 < (v1.1.length : Int))) then (lgetO v47 v48).bind fun v60 => (s_dn_lowered v60.Typ).bind fun v61 => (lgetO v47 v48).bind fun v62 => (s_dn_Fold v62.Val).bind fun v63 => (lgetO v47 v48).bind fun v64 => (lgetO (v47.set v48.toNat (⟨v61, v64.Val⟩ : T_Rdn)) v48).bind fun v65 => (lgetO ((v47.set v48.toNat (⟨v61, v64.Val⟩ : T_Rdn)).set v48.toNat (⟨v65.Typ, v63⟩ : T_Rdn)) v48).bind fun v66 => bif (v66.Val == []) then some ([], false) else (addO v48 1).bind fun v68 => (dn_Key_l1 v1 g) v68 ((v47.set v48.toNat (⟨v61, v64.Val⟩ : T_Rdn)).set v48.toNat (⟨v65.Typ, v63⟩ : T_Rdn)) else dn_Key_k1 v47
def s_dn_Key (p0 : Str) : Option (Str × Bool) := (s_dn_Parse p0).bind fun v1 => bif (!v1.2) then some ([], false) else dn_Key_l1 v1 FUEL 0 v1.1
def s_match_rules (p0 : Str) : Option Int := bif (p0 == k_uidnumber) then some 2 else bif (p0 == k_member) then some 3 else bif (p0 == k_userpassword) then some 4 else bif (p0 == k_objectclass) then some 1 else bif (p0 == k_cn) then some 1 else bif (p0 == k_sn) then some 1 else bif (p0 == k_o) then some 1 else bif (p0 == k_ou) then some 1 else bif (p0 == k_uid) then some 1 else bif (p0 == k_mail) then some 1 else bif (p0 == k_description) then some 1 else some 0
def match_Canon_k1 (v28 : Str) : Option (Str × Bool) := (s_match_rules v28).bind fun v29 => bif (v29 == 0) then some ([], false) else some (v28, true)
def match_Canon_l1 (v1 : Str) : Nat → Int → Str → Option (Str × Bool)
  | 0, _, _ => none
  | g + 1, v40, v39 => bif (decide (v40 < (v1.length : Int))) then (lgetO v39 v40).bind fun v50 => (bif (decide (65 ≤ v50)) then some (decide (v50 ≤ 90)) else some false).bind fun v52 => bif v52 then (lgetO v39 v40).bind fun v54 => (addO v40 1).bind fun v55 => (match_Canon_l1 v1 g) v55 (v39.set v40.toNat ((v50 + 97) - 65)) else (addO v40 1).bind fun v56 => (match_Canon_l1 v1 g) v56 v39 else match_Canon_k1 v39
def s_match_Canon (p0 : Str) : Option (Str × Bool) := (bytO p0).bind fun v1 => match_Canon_l1 v1 FUEL 0 v1
def slices_Index_string_k1 : Option Int := some (-1)
def slices_Index_string_l1 (p0 : List Str) (p1 : Str) : Nat → Int → Option Int
  | 0, _ => none
  | g + 1, v18 => bif (decide (v18 < (p0.length : Int))) then (lgetO p0 v18).bind fun v24 => bif (p1 == v24) then some v18 else (addO v18 1).bind fun v26 => (slices_Index_string_l1 p0 p1 g) v26 else slices_Index_string_k1
def s_slices_Index_string (p0 : List Str) (p1 : Str) : Option Int := slices_Index_string_l1 p0 p1 FUEL 0
def s_slices_Contains_string (p0 : List Str) (p1 : Str) : Option Bool := (s_slices_Index_string p0 p1).bind fun v1 => some (decide (v1 ≥ 0))
def s_match_Rule (p0 : Str) : Option Int := (s_match_Canon p0).bind fun v1 => (s_match_rules v1.1).bind fun v2 => some v2
def s_match_number (p0 : Str) : Option Bool := (s_atoi p0).bind fun v1 => (bif (!v1.2) then (s_itoa v1.1).bind fun v3 => bif (v3 == p0) then (s_trimPrefix p0 k_x2d).bind fun v5 => some (decide ((v5.length : Int) ≤ 15)) else some false else some false).bind fun v6 => some v6
def s_match_Norm (p0 : Str) (p1 : Str) : Option (Str × Bool) := (bif (p1 == []) then some true else some (decide ((p1.length : Int) > 100))).bind fun v2 => bif v2 then some ([], false) else (s_match_Rule p0).bind fun v4 => bif (v4 == 1) then (s_dn_Fold p1).bind fun v6 => (some (v6 == [])).bind fun v7 => bif v7 then some ([], false) else some (v6, true) else bif (v4 == 2) then (s_match_number p1).bind fun v10 => (bif (!v10) then some true else some (p1 == [])).bind fun v12 => bif v12 then some ([], false) else some (p1, true) else bif (v4 == 3) then (s_dn_Key p1).bind fun v15 => (bif (!v15.2) then some true else some (v15.1 == [])).bind fun v17 => bif v17 then some ([], false) else some (v15.1, true) else bif (v4 == 4) then (some (p1 == [])).bind fun v20 => bif v20 then some ([], false) else some (p1, true) else (some true).bind fun v22 => bif v22 then some ([], false) else some (p1, true)
def schema_attribute_k1 (p0 : T_Attr) (v30 : List Str) : Option Int := (s_sortS v30).bind fun v31 => (s_compactS (sortL v30)).bind fun v32 => bif (decide ((v32.length : Int) < (p0.Vals.length : Int))) then some 20 else some 0
def schema_attribute_l1 (p0 : T_Attr) (v1 : Str × Bool) : Nat → Int → List Str → Option Int
  | 0, _, _ => none
  | g + 1, v41, v40 => bif (decide (v41 < (p0.Vals.length : Int))) then (lgetO p0.Vals v41).bind fun v49 => (s_match_Norm v1.1 v49).bind fun v50 => bif (!v50.2) then some 21 else (appO 16 v40 ([v50.1] : List Str)).bind fun v52 => (addO v41 1).bind fun v53 => (schema_attribute_l1 p0 v1 g) v53 v52 else schema_attribute_k1 p0 v40
def s_schema_attribute (p0 : T_Attr) (p1 : List Str) : Option Int := (s_match_Canon p0.Typ).bind fun v1 => bif (!v1.2) then some 17 else (s_slices_Contains_string p1 v1.1).bind fun v3 => bif v3 then some 20 else (bif ((p0.Vals.length : Int) == 0) then some true else bif (decide ((p0.Vals.length : Int) > 40)) then some true else bif (v1.1 == k_uidnumber) then some (decide ((p0.Vals.length : Int) > 1)) else some false).bind fun v8 => bif v8 then some 19 else schema_attribute_l1 p0 v1 FUEL 0 []
def schema_lowered_k1 (v28 : Str) : Option Str := some v28
def schema_lowered_l1 (v1 : Str) : Nat → Int → Str → Option Str
  | 0, _, _ => none
  | g + 1, v38, v37 => bif (decide (v38 < (v1.length : Int))) then (lgetO v37 v38).bind fun v48 => (bif (decide (65 ≤ v48)) then some (decide (v48 ≤ 90)) else some false).bind fun v50 => bif v50 then (lgetO v37 v38).bind fun v52 => (addO v38 1).bind fun v53 => (schema_lowered_l1 v1 g) v53 (v37.set v38.toNat ((v48 + 97) - 65)) else (addO v38 1).bind fun v54 => (schema_lowered_l1 v1 g) v54 v37 else schema_lowered_k1 v37
def s_schema_lowered (p0 : Str) : Option Str := (bytO p0).bind fun v1 => schema_lowered_l1 v1 FUEL 0 v1
def s_match_norms (p0 : Str) (p1 : Str) (p2 : Str) : Option (Str × Str × Bool) := (s_match_Norm p0 p1).bind fun v1 => (s_match_Norm p0 p2).bind fun v2 => (bif v1.2 then some (v1.1, v2.1, v2.2) else some (v1.1, v2.1, false)).bind fun v4 => some (v4.1, v4.2.1, v4.2.2)
def s_match_Same (p0 : Str) (p1 : Str) (p2 : Str) : Option Bool := (s_match_norms p0 p1 p2).bind fun v1 => (bif v1.2.2 then some (v1.1 == v1.2.1) else some false).bind fun v3 => some v3
def s_schema_Check_1 (p0 : Str) (p1 : Str) (p2 : T_Rdn) : Option Bool := (s_match_Same p1 p0 p2.Val).bind fun v1 => some v1
def slices_IndexFunc_string_k1 : Option Int := some (-1)
def slices_IndexFunc_string_l1 (p0 : List Str) (p1 : Str → Option Bool) : Nat → Int → Option Int
  | 0, _ => none
  | g + 1, v22 => bif (decide (v22 < (p0.length : Int))) then (lgetO p0 v22).bind fun v29 => (p1 v29).bind fun v30 => bif v30 then some v22 else (addO v22 1).bind fun v32 => (slices_IndexFunc_string_l1 p0 p1 g) v32 else slices_IndexFunc_string_k1
def s_slices_IndexFunc_string (p0 : List Str) (p1 : Str → Option Bool) : Option Int := slices_IndexFunc_string_l1 p0 p1 FUEL 0
def s_slices_ContainsFunc_string (p0 : List Str) (p1 : Str → Option Bool) : Option Bool := (s_slices_IndexFunc_string p0 p1).bind fun v1 => some (decide (v1 ≥ 0))
def schema_classes_k1 (v21 : List T_Class) : Option (List T_Class) := some v21
def schema_classes_l1 : Nat → Int → List T_Class → Option (List T_Class)
  | 0, _, _ => none
  | g + 1, v29, v28 => bif (decide (v29 < ([(⟨k_top, [], [], k_objectclass, []⟩ : T_arr5Str), (⟨k_organization, k_top, k_S, k_o, k_description⟩ : T_arr5Str), (⟨k_organizationalunit, k_top, k_S, k_ou, k_description⟩ : T_arr5Str), (⟨k_person, k_top, k_S, k_x636e20736e, k_x6465736372697074696f6e207573657270617373⟩ : T_arr5Str), (⟨k_inetorgperson, k_person, k_S, [], k_x756964206d61696c⟩ : T_arr5Str), (⟨k_posix, k_top, [], k_x756964207569646e756d626572, []⟩ : T_arr5Str), (⟨k_groupofnames, k_top, k_S, k_x636e206d656d626572, k_description⟩ : T_arr5Str)].length : Int))) then (lgetO [(⟨k_top, [], [], k_objectclass, []⟩ : T_arr5Str), (⟨k_organization, k_top, k_S, k_o, k_description⟩ : T_arr5Str), (⟨k_organizationalunit, k_top, k_S, k_ou, k_description⟩ : T_arr5Str), (⟨k_person, k_top, k_S, k_x636e20736e, k_x6465736372697074696f6e207573657270617373⟩ : T_arr5Str), (⟨k_inetorgperson, k_person, k_S, [], k_x756964206d61696c⟩ : T_arr5Str), (⟨k_posix, k_top, [], k_x756964207569646e756d626572, []⟩ : T_arr5Str), (⟨k_groupofnames, k_top, k_S, k_x636e206d656d626572, k_description⟩ : T_arr5Str)] v29).bind fun v37 => (s_fields v37.x3).bind fun v38 => (s_fields v37.x4).bind fun v39 => (appO 88 v28 ([(⟨v37.x0, v37.x1, (v37.x2 == k_S), v38, v39⟩ : T_Class)] : List T_Class)).bind fun v40 => (addO v29 1).bind fun v41 => (schema_classes_l1 g) v41 v40 else schema_classes_k1 v28
def s_schema_classes : Option (List T_Class) := schema_classes_l1 FUEL 0 []
def s_schema_Find_1 (p0 : T_Class) (p1 : Str) : Option Bool := (s_schema_lowered p1).bind fun v1 => some (p0.Name == v1)
def slices_IndexFunc_Class_k1 : Option Int := some (-1)
def slices_IndexFunc_Class_l1 (p0 : List T_Class) (p1 : T_Class → Option Bool) : Nat → Int → Option Int
  | 0, _ => none
  | g + 1, v22 => bif (decide (v22 < (p0.length : Int))) then (lgetO p0 v22).bind fun v29 => (p1 v29).bind fun v30 => bif v30 then some v22 else (addO v22 1).bind fun v32 => (slices_IndexFunc_Class_l1 p0 p1 g) v32 else slices_IndexFunc_Class_k1
def s_slices_IndexFunc_Class (p0 : List T_Class) (p1 : T_Class → Option Bool) : Option Int := slices_IndexFunc_Class_l1 p0 p1 FUEL 0
def s_schema_Find (p0 : Str) : Option (T_Class × Bool) := (s_schema_classes).bind fun v1 => (s_slices_IndexFunc_Class v1 (fun x => s_schema_Find_1 x p0)).bind fun v2 => bif (decide (v2 < 0)) then some ((⟨[], [], false, [], []⟩ : T_Class), false) else (lgetO v1 v2).bind fun v4 => (s_cloneS v4.Must).bind fun v5 => (s_cloneS v4.May).bind fun v6 => some ((⟨v4.Name, v4.Sup, v4.Structural, v5, v6⟩ : T_Class), true)
def schema_above_k1 (v16 : List T_Class) : Option (List T_Class) := some v16
def schema_above_l1 : Nat → Str → Str → Bool → List Str → List Str → List T_Class → Option (List T_Class)
  | 0, _, _, _, _, _, _ => none
  | g + 1, v20, v21, v22, v23, v24, v25 => bif (!(v21 == [])) then (s_schema_Find v21).bind fun v30 => (appO 88 v25 ([v30.1] : List T_Class)).bind fun v31 => (schema_above_l1 g) v30.1.Name v30.1.Sup v30.1.Structural v30.1.Must v30.1.May v31 else schema_above_k1 v25
def s_schema_above (p0 : T_Class) : Option (List T_Class) := schema_above_l1 FUEL p0.Name p0.Sup p0.Structural p0.Must p0.May ([p0] : List T_Class)
def s_schema_classed_1 (p0 : Str) (p1 : List Str) : Option Bool := (s_slices_Contains_string p1 p0).bind fun v1 => some (!v1)
def s_schema_classed_2 (p0 : Str) (p1 : List Str) (p2 : List Str) : Option Bool := ((s_slices_Contains_string p1 p0).bind fun v1 => bif (!v1) then (s_slices_Contains_string p2 p0).bind fun v3 => some (!v3) else some false).bind fun v4 => some v4
def schema_classed_k1 (p0 : List Str) (v288 : Bool) (v289 : List Str) (v290 : List Str) : Option Bool := (s_slices_ContainsFunc_string v289 (fun x => s_schema_classed_1 x p0)).bind fun v291 => (s_slices_ContainsFunc_string p0 (fun x => s_schema_classed_2 x v289 v290)).bind fun v292 => (bif v288 then bif (!v291) then some (!v292) else some false else some false).bind fun v295 => some v295
def schema_classed_k2 (v392 : Int) (K1 : Bool → Int → List Str → List Str → Option Bool) (v534 : Bool) (v535 : List Str) (v536 : List Str) : Option Bool := (addO v392 1).bind fun v537 => K1 v534 v537 v535 v536
def schema_classed_k3 (v392 : Int) (K1 : Bool → Int → List Str → List Str → Option Bool) (v543 : Bool) (v563 : List Str) (v564 : List Str) : Option Bool := schema_classed_k2 v392 K1 v543 v563 v564
def schema_classed_l2 (v392 : Int) (K1 : Bool → Int → List Str → List Str → Option Bool) (v543 : Bool) (v544 : List T_Class) : Nat → Int → List Str → List Str → Option Bool
  | 0, _, _, _ => none
  | g + 1, v572, v570, v571 => bif (decide (v572 < (v544.length : Int))) then (lgetO v544 v572).bind fun v579 => (appO 16 v570 v579.Must).bind fun v580 => (appO 16 v571 v579.May).bind fun v581 => (addO v572 1).bind fun v582 => (schema_classed_l2 v392 K1 v543 v544 g) v582 v580 v581 else schema_classed_k3 v392 K1 v543 v570 v571
def schema_classed_l1 (p0 : List Str) (p1 : List Str) : Nat → Bool → Int → List Str → List Str → Option Bool
  | 0, _, _, _, _ => none
  | g + 1, v389, v392, v390, v391 => bif (decide (v392 < (p1.length : Int))) then (lgetO p1 v392).bind fun v538 => (s_dn_Fold v538).bind fun v539 => (s_schema_Find v539).bind fun v540 => bif (!v540.2) then some false else (bif v389 then some true else some v540.1.Structural).bind fun v543 => (s_schema_above v540.1).bind fun v544 => schema_classed_l2 v392 (schema_classed_l1 p0 p1 g) v543 v544 FUEL 0 v390 v391 else schema_classed_k1 p0 v389 v390 v391
def s_schema_classed (p0 : List Str) (p1 : List Str) : Option Bool := schema_classed_l1 p0 p1 FUEL false 0 [] []
def schema_Check_k1 (v65 : List Str) (v66 : Bool) (v64 : List Str) : Option Int := (s_schema_classed v64 v65).bind fun v67 => bif (!v67) then some 65 else bif (!v66) then some 64 else some 0
def schema_Check_l1 (p0 : T_Entry) (v8 : T_Rdn) : Nat → List Str → Bool → Int → List Str → Option Int
  | 0, _, _, _, _ => none
  | g + 1, v88, v89, v90, v87 => bif (decide (v90 < (p0.Attrs.length : Int))) then (lgetO p0.Attrs v90).bind fun v109 => (s_schema_attribute v109 v87).bind fun v110 => bif (v110 != 0) then some v110 else (s_match_Canon v109.Typ).bind fun v112 => (appO 16 v87 ([v112.1] : List Str)).bind fun v113 => bif (v112.1 == k_objectclass) then (s_schema_lowered v8.Typ).bind fun v115 => bif (v112.1 == v115) then (s_slices_ContainsFunc_string v109.Vals (fun x => s_schema_Check_1 x v112.1 v8)).bind fun v117 => (addO v90 1).bind fun v118 => (schema_Check_l1 p0 v8 g) v109.Vals v117 v118 v113 else (addO v90 1).bind fun v119 => (schema_Check_l1 p0 v8 g) v109.Vals v89 v119 v113 else (s_schema_lowered v8.Typ).bind fun v120 => bif (v112.1 == v120) then (s_slices_ContainsFunc_string v109.Vals (fun x => s_schema_Check_1 x v112.1 v8)).bind fun v122 => (addO v90 1).bind fun v123 => (schema_Check_l1 p0 v8 g) v88 v122 v123 v113 else (addO v90 1).bind fun v124 => (schema_Check_l1 p0 v8 g) v88 v89 v124 v113 else schema_Check_k1 v88 v89 v87
def s_schema_Check (p0 : T_Entry) : Option Int := (s_dn_Parse p0.Dn).bind fun v1 => (bif (!v1.2) then some true else some ((v1.1.length : Int) == 0)).bind fun v3 => bif v3 then some 34 else (s_dn_Key p0.Dn).bind fun v5 => bif (!v5.2) then some 34 else bif (decide ((p0.Attrs.length : Int) > 20)) then some 19 else (lgetO v1.1 0).bind fun v8 => schema_Check_l1 p0 v8 FUEL [] false 0 []
end Go.Ka
namespace Go.Ka
def s_brooklaw4_PersonT (p0 : Str) : Option T_EntryT := (catO k_x636e3d p0).bind fun v1 => (catO v1 k_x2c6f3d78).bind fun v2 => some (⟨v2, ([(⟨k_cn, [p0]⟩ : T_AttrT), (⟨k_objectclass, [k_person]⟩ : T_AttrT), (⟨k_sn, [k_s]⟩ : T_AttrT)] : List T_AttrT)⟩ : T_EntryT)
def brooklaw4_Great_k1 (p0 : T_Entry) : Option Bool := (bif (decide ((p0.Attrs.length : Int) > 25)) then some true else some (decide ((p0.Dn.length : Int) > 600))).bind fun v273 => some v273
def brooklaw4_Great_k2 (v364 : Int) (K1 : Int → Option Bool) : Option Bool := (addO v364 1).bind fun v501 => K1 v501
def brooklaw4_Great_k3 (v364 : Int) (K1 : Int → Option Bool) : Option Bool := brooklaw4_Great_k2 v364 K1
def brooklaw4_Great_l2 (p0 : T_Entry) (v364 : Int) (K1 : Int → Option Bool) : Nat → Int → Option Bool
  | 0, _ => none
  | g + 1, v532 => (lgetO p0.Attrs v364).bind fun v539 => bif (decide (v532 < (v539.Vals.length : Int))) then (lgetO p0.Attrs v364).bind fun v541 => (lgetO v541.Vals v532).bind fun v542 => bif (decide ((v542.length : Int) > 300)) then some true else (addO v532 1).bind fun v544 => (brooklaw4_Great_l2 p0 v364 K1 g) v544 else brooklaw4_Great_k3 v364 K1
def brooklaw4_Great_l1 (p0 : T_Entry) : Nat → Int → Option Bool
  | 0, _ => none
  | g + 1, v364 => (bif (decide (v364 < (p0.Attrs.length : Int))) then some (decide (v364 < 30)) else some false).bind fun v456 => bif v456 then ((lgetO p0.Attrs v364).bind fun v502 => bif (decide ((v502.Typ.length : Int) > 100)) then some true else (lgetO p0.Attrs v364).bind fun v504 => some (decide ((v504.Vals.length : Int) > 50))).bind fun v505 => bif v505 then some true else brooklaw4_Great_l2 p0 v364 (brooklaw4_Great_l1 p0 g) FUEL 0 else brooklaw4_Great_k1 p0
def s_brooklaw4_Great (p0 : T_Entry) : Option Bool := brooklaw4_Great_l1 p0 FUEL 0
def s_brooklaw4_Person (p0 : Str) : Option T_Entry := (catO k_x636e3d p0).bind fun v1 => (catO v1 k_x2c6f3d78).bind fun v2 => some (⟨v2, ([(⟨k_cn, [p0]⟩ : T_Attr), (⟨k_objectclass, [k_person]⟩ : T_Attr), (⟨k_sn, [k_s]⟩ : T_Attr)] : List T_Attr)⟩ : T_Entry)
def s_brooklaw4_awake : Option Bool := ((s_schema_Check (⟨[], []⟩ : T_Entry)).bind fun v1 => bif (v1 == 34) then (s_brooklaw4_Person k_ann).bind fun v3 => (s_schema_Check v3).bind fun v4 => bif (v4 == 0) then (s_schema_Check (⟨k_x636e3d616e6e, []⟩ : T_Entry)).bind fun v6 => some (v6 == 65) else some false else some false).bind fun v7 => some v7
end Go.Ka
