/- SchemaMade: from the plain law to the card. -/
import Derived.Test.YtnbmjbpekblhbaaGreatDoorVT
import Derived.Test.YtnbmjbpekblhbaaGreatDoorMD
import Derived.Test.YtnbmjbpekblhbaaGreatDoorCM
import Derived.Test.YtnbmjbpekblhbaaGreatDoorTie
import Derived.Test.YtnbmjbpekblhbaaGreatDoorCards
import Derived.Test.YtnbmjbpekblhbaaGreatDoorChecked
import Derived.ProofKit
import Derived.MakeChecks
import Derived.Lay
import Derived.Carry
import Derived.ChangeMaps5
import Derived.SevenTiedAt
set_option linter.all false
namespace Go.Proofs.YtnbmjbpekblhbaaGreatDoor.SchemaMade
open Go.ChangeShapes Go.WideShapes Go.RowKit Go.ChangeAt Go.Ka
open Enc (enc)
variable (hlaw : ∀ (b0 : Str) (b1 : UInt8) (b2 : UInt8) (b3 : UInt8), s_brooklaw4_SchemaMade b0 b1 b2 b3 = some true)

theorem own : ownKnob Tryz.prog.godebug = none := by kernel_rfl
theorem laid : laidOutB Tryz.prog = true := by kernel_rfl
theorem met_plain (W : World) : laidMetH Tryz.prog Rows.schemaMadeRow.laid W = laidMet Tryz.prog Rows.schemaMadeRow.laid W := MakeChecks.laidMetH_plain _ _ _ (by kernel_rfl)
theorem four {W : World} (h : laidMetH Tryz.prog Rows.schemaMadeRow.laid W) : Four W := by
  rw [met_plain] at h
  refine ⟨?_, ?_, ?_, ?_⟩
  · rw [← dPow]; exact Lib.laidMet.reads h (by simp [Rows.schemaMadeRow])
  · rw [← dAsc]; exact Lib.laidMet.reads h (by simp [Rows.schemaMadeRow])
  · exact Lib.laidMet.reads h (by simp [Rows.schemaMadeRow])
  · exact Lib.laidMet.reads h (by simp [Rows.schemaMadeRow])
include hlaw in
theorem law (b0 : Str) (b1 : UInt8) (b2 : UInt8) (b3 : UInt8) (W : World) (h : Four W) (x0 : Value) (x1 : Value) (x2 : Value) (x3 : Value) (r0 : letI := tabW W; Rel (FW W) ν0 x0 (ar b0)) (r1 : letI := tabW W; Rel (FW W) ν0 x1 (u8 b1)) (r2 : letI := tabW W; Rel (FW W) ν0 x2 (u8 b2)) (r3 : letI := tabW W; Rel (FW W) ν0 x3 (u8 b3)) : Calls Tryz.prog 4 #[x0, x1, x2, x3] W fun e w' => e = .returned (.bool true) ∧ Below W.heap.size W w' :=
  letI := tabW W
  letI := tabsW h
  pu_callsW (vs := [x0, x1, x2, x3]) (us := [ar b0, u8 b1, u8 b2, u8 b3]) (c_brooklaw4_SchemaMade b0 b1 b2 b3 true (hlaw b0 b1 b2 b3)) rfl fun j x u hx hu => by
    match j with
    | 0 => simp at hx hu; subst hx; subst hu; exact r0
    | 1 => simp at hx hu; subst hx; subst hu; exact r1
    | 2 => simp at hx hu; subst hx; subst hu; exact r2
    | 3 => simp at hx hu; subst hx; subst hu; exact r3
    | n + 4 => simp at hx
theorem u8_of (x : Int) (h : Lit.wf (.int .u8 x)) : ∃ n : UInt8, x = n.toNat := by
  have h : 0 ≤ x ∧ x ≤ 255 := by simpa [Lit.wf, IntKind.min, IntKind.max, IntKind.signed, IntKind.bits] using h
  exact ⟨UInt8.ofNat x.toNat, by simp; omega⟩
include hlaw in
set_option maxRecDepth 100000 in
theorem lifted (os : Os) (started : os.Started) (H : Type) (ec : TypeId × Value → H) :
    ReturnsInHanded {} Tryz.checked os 4 .any (fun w args => (Rows.schemaMadeSpec.pre ec Tryz.prog Tryz.f4 [] false w args ∧ laidMetH Tryz.prog Rows.schemaMadeRow.laid w) ∧ sizedMet ec Tryz.prog Tryz.f4 (OpenSpec.ofChange Rows.schemaMadeSpec) false w args)
      (Rows.schemaMadeSpec.post ec Tryz.prog Tryz.f4 false true false false) := by
  refine returnsInHanded_of_change_and (C := Tryz.checked) (X := fun w _ => laidMetH Tryz.prog Rows.schemaMadeRow.laid w) (fun _ _ _ hh h => h.of_heap hh) own started (by kernel_rfl) Tryz.func4
    (ChangeSpec.witness_shaped (enc := ec) (C := Tryz.checked) (os := os) (X := fun w _ => laidMetH Tryz.prog Rows.schemaMadeRow.laid w) false (World.laidAll Tryz.prog os Rows.schemaMadeRow.laid) #[.slice none 0 0, .int .u8 0, .int .u8 0, .int .u8 0] 8 (World.laidAll_os _ _ _)
      (World.shaped_of_ZipB (by kernel_rfl) (by kernel_rfl)) (by kernel_rfl) (by kernel_rfl) (by kernel_rfl)
      (by rw [met_plain]; exact laidMet_laidAll _ (by kernel_rfl) (by kernel_rfl))) ?_
  intro W base args ds gs before hval0 hW _ _ hL _
  have hval : ∀ (j : Nat) t v, Tryz.f4.params[j]? = some t → args[j]? = some v → Value.okWide Tryz.prog W .any base t v := hval0
  have hW' := hW
  obtain ⟨p, q, hA0, hV, rfl, _, _⟩ := hW
  have hA : DataW.TrodAll ec Tryz.prog W 0 (fun _ => true) true Tryz.f4.params.toList args.toList ds p := hA0
  rw [Tryz.params4] at hA hval
  obtain ⟨v0, v1, v2, v3, d0, d1, d2, d3, p0, p1, p2, p3, rfl, rfl, rfl, h0, h1, h2, h3⟩ := trodAll_four hA
  obtain ⟨rfl, rfl⟩ := trodVars_none hV
  letI := tabW W
  obtain ⟨a0, r0⟩ := arg_cell (rd_list Tryz.underlying38 (by kernel_rfl) (Nat.zero_lt_succ _) (rd_u8 Tryz.underlying5)) (cells_slice Tryz.underlying38 (hval 0 38 v0 rfl rfl)) h0
  obtain ⟨x1, rfl, rfl, rfl, w1⟩ := open_int Tryz.underlying5 (hval 1 5 v1 rfl rfl) h1
  obtain ⟨a1, rfl⟩ := u8_of x1 w1
  obtain ⟨x2, rfl, rfl, rfl, w2⟩ := open_int Tryz.underlying5 (hval 2 5 v2 rfl rfl) h2
  obtain ⟨a2, rfl⟩ := u8_of x2 w2
  obtain ⟨x3, rfl, rfl, rfl, w3⟩ := open_int Tryz.underlying5 (hval 3 5 v3 rfl rfl) h3
  obtain ⟨a3, rfl⟩ := u8_of x3 w3
  simp only [List.append_nil, List.nil_append] at hW'
  have l0 : ∀ x ∈ p0, x.block < W.heap.size := fun x hx => hW'.lt x (by simp [hx])
  refine (law hlaw a0 a1 a2 a3 W (four hL) _ _ _ _ r0 (.val _ rfl) (.val _ rfl) (.val _ rfl)).mono fun e W' ⟨he, hb⟩ => ?_
  subst he
  exact ⟨_, rfl, _, _, _, [], _, [], hW', trodAll_mk1 (shut_bool Tryz.underlying4 _), trodAll_mk4 (Below.trod laid (by kernel_rfl) (of_decide_eq_true (by kernel_rfl)) h0 hb l0) (shut_int Tryz.underlying5 w1) (shut_int Tryz.underlying5 w2) (shut_int Tryz.underlying5 w3), rfl, hb.frame _, fun h => by cases h⟩
include hlaw in
theorem holds : Rows.SchemaMadeSaid :=
  OpenClaim.holds_of_wide 4 Tryz.f4 rfl rfl rfl rfl rfl rfl rfl ⟨rfl, rfl, rfl, rfl, rfl⟩ rfl rfl rfl rfl rfl (by kernel_rfl) Tryz.func4 (by kernel_rfl)
    (of_decide_eq_true (by kernel_rfl)) (by unfold Func.isWrapper; first | (rw [if_pos (by decide +kernel)]; kernel_rfl) | (rw [if_neg (by decide +kernel)]; exact ⟨rfl, rfl⟩))
    (fun os started H ec _ => lifted hlaw os started H ec)
include hlaw in
theorem card_holds : Rows.SchemaMadeCardSaid :=
  Claim7.holds_tied_plain_at .later [] [.data, .data, .data, .data, .sentinel, .sentinel, .listed, .data, .pinned] true (true, "7cde8aff9002fdaf016bb368cd9c45af2a052c3621ecfaf29d2dce0265328a60") true (holds hlaw) (fun _ h => by cases h) (by kernel_rfl) (fun _ h => by cases h) schemaMade_row_tie rfl ⟨rfl, rfl⟩ (by kernel_rfl) rfl
    (fun f fn hf hfn => by
      obtain rfl : f = 4 := Option.some.inj ((show Tryz.prog.funcNamed "brook/brooklaw4.SchemaMade" = some 4 by kernel_rfl).symm.trans hf) |>.symm
      obtain rfl : fn = Tryz.f4 := (Option.some.inj (Tryz.func4.symm.trans hfn)).symm
      exact ⟨by kernel_rfl, fun j t ht => by
        rw [Tryz.params4] at ht
        have hm : t ∈ [38, 5, 5, 5] := by simpa using Array.mem_of_getElem? ht
        have hall : ([38, 5, 5, 5].all fun u => !Tryz.prog.wantsStandIn u) = true := by kernel_rfl
        exact (show Tryz.prog.wantsStandIn t = false by simpa using List.all_eq_true.1 hall t hm)⟩)
    (by kernel_rfl)
end Go.Proofs.YtnbmjbpekblhbaaGreatDoor.SchemaMade
