/- SchemaFirst: from the plain law to the card. -/
import Derived.Test.YtnbmjbpekblhbaaGreatDoorVT
import Derived.Test.YtnbmjbpekblhbaaGreatDoorCW
import Derived.Test.YtnbmjbpekblhbaaGreatDoorTie
import Derived.Test.YtnbmjbpekblhbaaGreatDoorCards
import Derived.Test.YtnbmjbpekblhbaaGreatDoorChecked
import Derived.ProofKit
import Derived.MakeChecks
import Derived.Lay
import Derived.SevenTiedAt
set_option linter.all false
namespace Go.Proofs.YtnbmjbpekblhbaaGreatDoor
open Go.ChangeShapes Go.WideShapes Go.RowKit Go.ChangeAt Go.Ka
variable (hlaw : ∀ n k : UInt8, s_brooklaw4_SchemaFirst n k = some true)

theorem own : ownKnob Tryz.prog.godebug = none := by kernel_rfl
theorem met_plain (W : World) : laidMetH Tryz.prog Rows.schemaFirstRow.laid W = laidMet Tryz.prog Rows.schemaFirstRow.laid W := MakeChecks.laidMetH_plain _ _ _ (by kernel_rfl)
theorem four {W : World} (h : laidMetH Tryz.prog Rows.schemaFirstRow.laid W) : Four W := by
  rw [met_plain] at h
  refine ⟨?_, ?_, ?_, ?_⟩
  · rw [← dPow]; exact Lib.laidMet.reads h (by simp [Rows.schemaFirstRow])
  · rw [← dAsc]; exact Lib.laidMet.reads h (by simp [Rows.schemaFirstRow])
  · exact Lib.laidMet.reads h (by simp [Rows.schemaFirstRow])
  · exact Lib.laidMet.reads h (by simp [Rows.schemaFirstRow])
include hlaw in
theorem law (n k : UInt8) (W : World) (h : Four W) : Calls Tryz.prog 8 #[.int .u8 n.toNat, .int .u8 k.toNat] W fun e w' => e = .returned (.bool true) ∧ Below W.heap.size W w' :=
  letI := tabW W
  letI := tabsW h
  pu_calls (vs := [.int .u8 n.toNat, .int .u8 k.toNat]) (c_brooklaw4_SchemaFirst n k true (hlaw n k)) (by simp [Value.oneCell'])
theorem u8_of (x : Int) (h : Lit.wf (.int .u8 x)) : ∃ n : UInt8, x = n.toNat := by
  have h : 0 ≤ x ∧ x ≤ 255 := by simpa [Lit.wf, IntKind.min, IntKind.max, IntKind.signed, IntKind.bits] using h
  exact ⟨UInt8.ofNat x.toNat, by simp; omega⟩
include hlaw in
set_option maxRecDepth 100000 in
theorem lifted (os : Os) (started : os.Started) (H : Type) (enc : TypeId × Value → H) :
    ReturnsInHanded {} Tryz.checked os 8 .any (fun w args => (Rows.schemaFirstSpec.pre enc Tryz.prog Tryz.f8 [] false w args ∧ laidMetH Tryz.prog Rows.schemaFirstRow.laid w) ∧ sizedMet enc Tryz.prog Tryz.f8 (OpenSpec.ofChange Rows.schemaFirstSpec) false w args)
      (Rows.schemaFirstSpec.post enc Tryz.prog Tryz.f8 false true false false) := by
  refine returnsInHanded_of_change_and (C := Tryz.checked) (X := fun w _ => laidMetH Tryz.prog Rows.schemaFirstRow.laid w) (fun _ _ _ hh h => h.of_heap hh) own started (by kernel_rfl) Tryz.func8
    (ChangeSpec.witness_shaped (enc := enc) (C := Tryz.checked) (os := os) (X := fun w _ => laidMetH Tryz.prog Rows.schemaFirstRow.laid w) false (World.laidAll Tryz.prog os Rows.schemaFirstRow.laid) #[.int .u8 0, .int .u8 0] 8 (World.laidAll_os _ _ _)
      (World.shaped_of_ZipB (by kernel_rfl) (by kernel_rfl)) (by kernel_rfl) (by kernel_rfl) (by kernel_rfl)
      (by rw [met_plain]; exact laidMet_laidAll _ (by kernel_rfl) (by kernel_rfl))) ?_
  intro W base args ds gs before hval0 hW _ _ hL _
  have hval : ∀ (j : Nat) t v, Tryz.f8.params[j]? = some t → args[j]? = some v → Value.okWide Tryz.prog W .any base t v := hval0
  have hW' := hW
  obtain ⟨p, q, hA0, hV, rfl, _, _⟩ := hW
  have hA : DataW.TrodAll enc Tryz.prog W 0 (fun _ => true) true Tryz.f8.params.toList args.toList ds p := hA0
  rw [Tryz.params8] at hA hval
  obtain ⟨v0, v1, d0, d1, p0, p1, rfl, rfl, rfl, h0, h1⟩ := trodAll_two hA
  obtain ⟨rfl, rfl⟩ := trodVars_none hV
  obtain ⟨x, rfl, rfl, rfl, wx⟩ := open_int Tryz.underlying5 (hval 0 5 v0 rfl rfl) h0
  obtain ⟨y, rfl, rfl, rfl, wy⟩ := open_int Tryz.underlying5 (hval 1 5 v1 rfl rfl) h1
  simp only [List.append_nil] at hW'
  obtain ⟨n, rfl⟩ := u8_of x wx
  obtain ⟨k, rfl⟩ := u8_of y wy
  refine (law hlaw n k W (four hL)).mono fun e W' ⟨he, hb⟩ => ?_
  subst he
  exact ⟨_, rfl, _, _, _, [], [], [], hW', trodAll_mk1 (shut_bool Tryz.underlying4 _), trodAll_mk2 (shut_int Tryz.underlying5 wx) (shut_int Tryz.underlying5 wy), rfl, hb.frame _, fun h => by cases h⟩
include hlaw in
theorem holds : Rows.SchemaFirstSaid :=
  OpenClaim.holds_of_wide 8 Tryz.f8 rfl rfl rfl rfl rfl rfl rfl ⟨rfl, rfl, rfl, rfl, rfl⟩ rfl rfl rfl rfl rfl (by kernel_rfl) Tryz.func8 (by kernel_rfl)
    (of_decide_eq_true (by kernel_rfl)) (by unfold Func.isWrapper; first | (rw [if_pos (by decide +kernel)]; kernel_rfl) | (rw [if_neg (by decide +kernel)]; exact ⟨rfl, rfl⟩))
    (fun os started H enc _ => lifted hlaw os started H enc)
include hlaw in
theorem card_holds : Rows.SchemaFirstCardSaid :=
  Claim7.holds_tied_plain_at .later [] [.data, .data, .data, .data, .sentinel, .sentinel, .listed, .data, .pinned] true (true, "7cde8aff9002fdaf016bb368cd9c45af2a052c3621ecfaf29d2dce0265328a60") true (holds hlaw) (fun _ h => by cases h) (by kernel_rfl) (fun _ h => by cases h) schemaFirst_row_tie rfl ⟨rfl, rfl⟩ (by kernel_rfl) rfl
    (fun f fn hf hfn => by
      obtain rfl : f = 8 := Option.some.inj ((show Tryz.prog.funcNamed "brook/brooklaw4.SchemaFirst" = some 8 by kernel_rfl).symm.trans hf) |>.symm
      obtain rfl : fn = Tryz.f8 := (Option.some.inj (Tryz.func8.symm.trans hfn)).symm
      exact ⟨by kernel_rfl, fun j t ht => by
        rw [Tryz.params8] at ht
        have hm : t ∈ [5, 5] := by simpa using Array.mem_of_getElem? ht
        have hall : ([5, 5].all fun u => !Tryz.prog.wantsStandIn u) = true := by kernel_rfl
        exact (show Tryz.prog.wantsStandIn t = false by simpa using List.all_eq_true.1 hall t hm)⟩)
    (by kernel_rfl)
end Go.Proofs.YtnbmjbpekblhbaaGreatDoor
