/- How the laws' arguments read. -/
import Derived.Test.YtnbmjbpekblhbaaGreatDoorKaRd
import Derived.Test.YtnbmjbpekblhbaaGreatDoorKaSt
import Derived.Test.YtnbmjbpekblhbaaGreatDoorProg
set_option linter.all false
namespace Go.Ka
open Go.Proofs
open Enc (enc)
variable [Tab]
set_option maxRecDepth 100000
theorem rd_T_Attr_42 : Rd Tryz.prog 42 T_Attr enc := by
  refine rd_struct Tryz.underlying42 (tot := 2) (by kernel_rfl) (rdF_cons rfl (s := 1) (by kernel_rfl) rfl (rd_str Tryz.underlying9) (rdF_cons rfl (s := 1) (by kernel_rfl) rfl (rd_list Tryz.underlying27 (by kernel_rfl) (Nat.zero_lt_succ _) (rd_str Tryz.underlying9)) rdF_nil)) (fun (x : Str × (List Str) × Unit) => ⟨x.1, x.2.1⟩) ?_
  exact fun _ => rfl
theorem rd_T_Entry_24 : Rd Tryz.prog 24 T_Entry enc := by
  refine rd_struct Tryz.underlying24 (tot := 2) (by kernel_rfl) (rdF_cons rfl (s := 1) (by kernel_rfl) rfl (rd_str Tryz.underlying9) (rdF_cons rfl (s := 1) (by kernel_rfl) rfl (rd_list Tryz.underlying22 (by kernel_rfl) (Nat.zero_lt_succ _) rd_T_Attr_42) rdF_nil)) (fun (x : Str × (List T_Attr) × Unit) => ⟨x.1, x.2.1⟩) ?_
  exact fun _ => rfl
end Go.Ka
