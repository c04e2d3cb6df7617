/- Plain kinds and texts of the program. -/
import Derived.Test.YtnbmjbpekblhbaaGreatDoorKaY
set_option linter.all false
namespace Go.Ka
variable [Tab]
structure T_Class where
  Name : Str
  Sup : Str
  Structural : Bool
  Must : List Str
  May : List Str
instance : Enc T_Class := ⟨5, fun a => [tx a.Name, tx a.Sup, bo a.Structural, ar a.Must, ar a.May], fun _ => rfl, fun _ => cellL rfl, fun _ => (nfc nfv (nfc nfv (nfc nfv (nfc nfa (nfc nfa nfn)))))⟩
structure T_R1Class where
  C : T_Class
  Ok : Bool
instance : Enc T_R1Class := ⟨6, fun a => [tx a.C.Name, tx a.C.Sup, bo a.C.Structural, ar a.C.Must, ar a.C.May, bo a.Ok], fun _ => rfl, fun _ => cellL rfl, fun _ => (nfc nfv (nfc nfv (nfc nfv (nfc nfa (nfc nfa (nfc nfv nfn))))))⟩
structure T_Rdn where
  Typ : Str
  Val : Str
instance : Enc T_Rdn := ⟨2, fun a => [tx a.Typ, tx a.Val], fun _ => rfl, fun _ => cellL rfl, fun _ => (nfc nfv (nfc nfv nfn))⟩
structure T_R1Dn where
  L : List T_Rdn
  Ok : Bool
instance : Enc T_R1Dn := ⟨2, fun a => [ar a.L, bo a.Ok], fun _ => rfl, fun _ => cellL rfl, fun _ => (nfc nfa (nfc nfv nfn))⟩
structure T_R1Said where
  S : Str
  Ok : Bool
instance : Enc T_R1Said := ⟨2, fun a => [tx a.S, bo a.Ok], fun _ => rfl, fun _ => cellL rfl, fun _ => (nfc nfv (nfc nfv nfn))⟩
structure T_Attr where
  Typ : Str
  Vals : List Str
instance : Enc T_Attr := ⟨2, fun a => [tx a.Typ, ar a.Vals], fun _ => rfl, fun _ => cellL rfl, fun _ => (nfc nfv (nfc nfa nfn))⟩
structure T_Entry where
  Dn : Str
  Attrs : List T_Attr
instance : Enc T_Entry := ⟨2, fun a => [tx a.Dn, ar a.Attrs], fun _ => rfl, fun _ => cellL rfl, fun _ => (nfc nfv (nfc nfa nfn))⟩
structure T_R1Num where
  N : Int
  Ok : Bool
instance : Enc T_R1Num := ⟨2, fun a => [i64 a.N, bo a.Ok], fun _ => rfl, fun _ => cellL rfl, fun _ => (nfc nfv (nfc nfv nfn))⟩
structure T_arr5Str where
  x0 : Str
  x1 : Str
  x2 : Str
  x3 : Str
  x4 : Str
instance : Enc T_arr5Str := ⟨5, fun a => [tx a.x0, tx a.x1, tx a.x2, tx a.x3, tx a.x4], fun _ => rfl, fun _ => cellL rfl, fun _ => (nfc nfv (nfc nfv (nfc nfv (nfc nfv (nfc nfv nfn)))))⟩
abbrev k_0123456789abcdef : Str := [48, 49, 50, 51, 52, 53, 54, 55, 56, 57, 97, 98, 99, 100, 101, 102]
abbrev k_1 : Str := [49]
abbrev k_2 : Str := [50]
abbrev k_7 : Str := [55]
abbrev k_CN : Str := [67, 78]
abbrev k_INETorgPERSON : Str := [73, 78, 69, 84, 111, 114, 103, 80, 69, 82, 83, 79, 78]
abbrev k_Person : Str := [80, 101, 114, 115, 111, 110]
abbrev k_S : Str := [83]
abbrev k_a : Str := [97]
abbrev k_ann : Str := [97, 110, 110]
abbrev k_any : Str := [97, 110, 121]
abbrev k_cn : Str := [99, 110]
abbrev k_description : Str := [100, 101, 115, 99, 114, 105, 112, 116, 105, 111, 110]
abbrev k_groupofnames : Str := [103, 114, 111, 117, 112, 111, 102, 110, 97, 109, 101, 115]
abbrev k_inetorgperson : Str := [105, 110, 101, 116, 111, 114, 103, 112, 101, 114, 115, 111, 110]
abbrev k_mail : Str := [109, 97, 105, 108]
abbrev k_member : Str := [109, 101, 109, 98, 101, 114]
abbrev k_none : Str := [110, 111, 110, 101]
abbrev k_o : Str := [111]
abbrev k_objectclass : Str := [111, 98, 106, 101, 99, 116, 99, 108, 97, 115, 115]
abbrev k_organization : Str := [111, 114, 103, 97, 110, 105, 122, 97, 116, 105, 111, 110]
abbrev k_organizationalunit : Str := [111, 114, 103, 97, 110, 105, 122, 97, 116, 105, 111, 110, 97, 108, 117, 110, 105, 116]
abbrev k_other : Str := [111, 116, 104, 101, 114]
abbrev k_ou : Str := [111, 117]
abbrev k_p : Str := [112]
abbrev k_person : Str := [112, 101, 114, 115, 111, 110]
abbrev k_posix : Str := [112, 111, 115, 105, 120]
abbrev k_s : Str := [115]
abbrev k_sn : Str := [115, 110]
abbrev k_top : Str := [116, 111, 112]
abbrev k_uid : Str := [117, 105, 100]
abbrev k_uidnumber : Str := [117, 105, 100, 110, 117, 109, 98, 101, 114]
abbrev k_userpassword : Str := [117, 115, 101, 114, 112, 97, 115, 115, 119, 111, 114, 100]
abbrev k_v : Str := [118]
abbrev k_w : Str := [119]
abbrev k_x : Str := [120]
abbrev k_x20 : Str := [32]
abbrev k_x2020 : Str := [32, 32]
abbrev k_x2c : Str := [44]
abbrev k_x2c2b223c3e3b : Str := [44, 43, 34, 60, 62, 59]
abbrev k_x2c2b225c3c3e3b : Str := [44, 43, 34, 92, 60, 62, 59]
abbrev k_x2c2b225c3c3e3b3d2320 : Str := [44, 43, 34, 92, 60, 62, 59, 61, 35, 32]
abbrev k_x2c6f3d78 : Str := [44, 111, 61, 120]
abbrev k_x2d : Str := [45]
abbrev k_x3d : Str := [61]
abbrev k_x4120 : Str := [65, 32]
abbrev k_x5c : Str := [92]
abbrev k_x636e206d656d626572 : Str := [99, 110, 32, 109, 101, 109, 98, 101, 114]
abbrev k_x636e20736e : Str := [99, 110, 32, 115, 110]
abbrev k_x636e3d : Str := [99, 110, 61]
abbrev k_x636e3d616e6e : Str := [99, 110, 61, 97, 110, 110]
abbrev k_x636e3d6f74686572 : Str := [99, 110, 61, 111, 116, 104, 101, 114]
abbrev k_x6465736372697074696f6e207573657270617373 : Str := [100, 101, 115, 99, 114, 105, 112, 116, 105, 111, 110, 32, 117, 115, 101, 114, 112, 97, 115, 115, 119, 111, 114, 100]
abbrev k_x6f3d : Str := [111, 61]
abbrev k_x6f3d31 : Str := [111, 61, 49]
abbrev k_x756964206d61696c : Str := [117, 105, 100, 32, 109, 97, 105, 108]
abbrev k_x756964207569646e756d626572 : Str := [117, 105, 100, 32, 117, 105, 100, 110, 117, 109, 98, 101, 114]
abbrev k_x7569643d61 : Str := [117, 105, 100, 61, 97]
abbrev k_z : Str := [122]
end Go.Ka
