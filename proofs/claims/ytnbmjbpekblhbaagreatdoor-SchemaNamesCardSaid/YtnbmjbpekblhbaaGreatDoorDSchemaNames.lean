/- SchemaNames: from the plain law to the card. -/
import Derived.Test.YtnbmjbpekblhbaaGreatDoorVT
import Derived.Test.YtnbmjbpekblhbaaGreatDoorMD
import Derived.Test.YtnbmjbpekblhbaaGreatDoorCW
import Derived.Test.YtnbmjbpekblhbaaGreatDoorTie
import Derived.Test.YtnbmjbpekblhbaaGreatDoorCards
import Derived.Test.YtnbmjbpekblhbaaGreatDoorChecked
import Derived.ProofKit
import Derived.MakeChecks
import Derived.Lay
import Derived.Carry
import Derived.ChangeMaps5
import Derived.SevenTiedAt
set_option linter.all false
namespace Go.Proofs.YtnbmjbpekblhbaaGreatDoor.SchemaNames
open Go.ChangeShapes Go.WideShapes Go.RowKit Go.ChangeAt Go.Ka
open Enc (enc)
variable (hlaw : ∀ (b0 : Str) (b1 : Bool), s_brooklaw4_SchemaNames b0 b1 = some true)

theorem own : ownKnob Tryz.prog.godebug = none := by kernel_rfl
theorem laid : laidOutB Tryz.prog = true := by kernel_rfl
theorem met_plain (W : World) : laidMetH Tryz.prog Rows.schemaNamesRow.laid W = laidMet Tryz.prog Rows.schemaNamesRow.laid W := MakeChecks.laidMetH_plain _ _ _ (by kernel_rfl)
theorem four {W : World} (h : laidMetH Tryz.prog Rows.schemaNamesRow.laid W) : Four W := by
  rw [met_plain] at h
  refine ⟨?_, ?_, ?_, ?_⟩
  · rw [← dPow]; exact Lib.laidMet.reads h (by simp [Rows.schemaNamesRow])
  · rw [← dAsc]; exact Lib.laidMet.reads h (by simp [Rows.schemaNamesRow])
  · exact Lib.laidMet.reads h (by simp [Rows.schemaNamesRow])
  · exact Lib.laidMet.reads h (by simp [Rows.schemaNamesRow])
include hlaw in
theorem law (b0 : Str) (b1 : Bool) (W : World) (h : Four W) (x0 : Value) (x1 : Value) (r0 : letI := tabW W; Rel (FW W) ν0 x0 (tx b0)) (r1 : letI := tabW W; Rel (FW W) ν0 x1 (bo b1)) : Calls Tryz.prog 6 #[x0, x1] W fun e w' => e = .returned (.bool true) ∧ Below W.heap.size W w' :=
  letI := tabW W
  letI := tabsW h
  pu_callsW (vs := [x0, x1]) (us := [tx b0, bo b1]) (c_brooklaw4_SchemaNames b0 b1 true (hlaw b0 b1)) rfl fun j x u hx hu => by
    match j with
    | 0 => simp at hx hu; subst hx; subst hu; exact r0
    | 1 => simp at hx hu; subst hx; subst hu; exact r1
    | n + 2 => simp at hx
theorem u8_of (x : Int) (h : Lit.wf (.int .u8 x)) : ∃ n : UInt8, x = n.toNat := by
  have h : 0 ≤ x ∧ x ≤ 255 := by simpa [Lit.wf, IntKind.min, IntKind.max, IntKind.signed, IntKind.bits] using h
  exact ⟨UInt8.ofNat x.toNat, by simp; omega⟩
include hlaw in
set_option maxRecDepth 100000 in
theorem lifted (os : Os) (started : os.Started) (H : Type) (ec : TypeId × Value → H) :
    ReturnsInHanded {} Tryz.checked os 6 .any (fun w args => (Rows.schemaNamesSpec.pre ec Tryz.prog Tryz.f6 [] false w args ∧ laidMetH Tryz.prog Rows.schemaNamesRow.laid w) ∧ sizedMet ec Tryz.prog Tryz.f6 (OpenSpec.ofChange Rows.schemaNamesSpec) false w args)
      (Rows.schemaNamesSpec.post ec Tryz.prog Tryz.f6 false true false false) := by
  refine returnsInHanded_of_change_and (C := Tryz.checked) (X := fun w _ => laidMetH Tryz.prog Rows.schemaNamesRow.laid w) (fun _ _ _ hh h => h.of_heap hh) own started (by kernel_rfl) Tryz.func6
    (ChangeSpec.witness_shaped (enc := ec) (C := Tryz.checked) (os := os) (X := fun w _ => laidMetH Tryz.prog Rows.schemaNamesRow.laid w) false (World.laidAll Tryz.prog os Rows.schemaNamesRow.laid) #[.string ⟨#[]⟩, .bool false] 8 (World.laidAll_os _ _ _)
      (World.shaped_of_ZipB (by kernel_rfl) (by kernel_rfl)) (by kernel_rfl) (by kernel_rfl) (by kernel_rfl)
      (by rw [met_plain]; exact laidMet_laidAll _ (by kernel_rfl) (by kernel_rfl))) ?_
  intro W base args ds gs before hval0 hW _ _ hL _
  have hval : ∀ (j : Nat) t v, Tryz.f6.params[j]? = some t → args[j]? = some v → Value.okWide Tryz.prog W .any base t v := hval0
  have hW' := hW
  obtain ⟨p, q, hA0, hV, rfl, _, _⟩ := hW
  have hA : DataW.TrodAll ec Tryz.prog W 0 (fun _ => true) true Tryz.f6.params.toList args.toList ds p := hA0
  rw [Tryz.params6] at hA hval
  obtain ⟨v0, v1, d0, d1, p0, p1, rfl, rfl, rfl, h0, h1⟩ := trodAll_two hA
  obtain ⟨rfl, rfl⟩ := trodVars_none hV
  letI := tabW W
  obtain ⟨s0, rfl, rfl, rfl, w0⟩ := Go.ChangeMaps.open_string Tryz.underlying9 (hval 0 9 v0 rfl rfl) h0
  obtain ⟨a1, rfl, rfl, rfl⟩ := open_bool Tryz.underlying4 (hval 1 4 v1 rfl rfl) h1
  simp only [List.append_nil, List.nil_append] at hW'

  refine (law hlaw s0.data.toList a1 W (four hL) _ _ (rel_str s0) (.val _ rfl)).mono fun e W' ⟨he, hb⟩ => ?_
  subst he
  exact ⟨_, rfl, _, _, _, [], [], [], hW', trodAll_mk1 (shut_bool Tryz.underlying4 _), trodAll_mk2 (Go.ChangeMaps.shut_string Tryz.underlying9 w0) (shut_bool Tryz.underlying4 _), rfl, hb.frame _, fun h => by cases h⟩
include hlaw in
theorem holds : Rows.SchemaNamesSaid :=
  OpenClaim.holds_of_wide 6 Tryz.f6 rfl rfl rfl rfl rfl rfl rfl ⟨rfl, rfl, rfl, rfl, rfl⟩ rfl rfl rfl rfl rfl (by kernel_rfl) Tryz.func6 (by kernel_rfl)
    (of_decide_eq_true (by kernel_rfl)) (by unfold Func.isWrapper; first | (rw [if_pos (by decide +kernel)]; kernel_rfl) | (rw [if_neg (by decide +kernel)]; exact ⟨rfl, rfl⟩))
    (fun os started H ec _ => lifted hlaw os started H ec)
include hlaw in
theorem card_holds : Rows.SchemaNamesCardSaid :=
  Claim7.holds_tied_plain_at .later [] [.data, .data, .data, .data, .sentinel, .sentinel, .listed, .data, .pinned] true (true, "7cde8aff9002fdaf016bb368cd9c45af2a052c3621ecfaf29d2dce0265328a60") true (holds hlaw) (fun _ h => by cases h) (by kernel_rfl) (fun _ h => by cases h) schemaNames_row_tie rfl ⟨rfl, rfl⟩ (by kernel_rfl) rfl
    (fun f fn hf hfn => by
      obtain rfl : f = 6 := Option.some.inj ((show Tryz.prog.funcNamed "brook/brooklaw4.SchemaNames" = some 6 by kernel_rfl).symm.trans hf) |>.symm
      obtain rfl : fn = Tryz.f6 := (Option.some.inj (Tryz.func6.symm.trans hfn)).symm
      exact ⟨by kernel_rfl, fun j t ht => by
        rw [Tryz.params6] at ht
        have hm : t ∈ [9, 4] := by simpa using Array.mem_of_getElem? ht
        have hall : ([9, 4].all fun u => !Tryz.prog.wantsStandIn u) = true := by kernel_rfl
        exact (show Tryz.prog.wantsStandIn t = false by simpa using List.all_eq_true.1 hall t hm)⟩)
    (by kernel_rfl)
end Go.Proofs.YtnbmjbpekblhbaaGreatDoor.SchemaNames
