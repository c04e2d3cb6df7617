/- Plain laws: a name's text says the name; SchemaNames answers true. -/
import Derived.Test.YtnbmjbpekblhbaaGreatDoorQn
set_option linter.all false
namespace Go.Ka
set_option maxRecDepth 100000

/-! A value's text says the value. -/
theorem two_back (c : UInt8) : hexQ (hx (c / 16)) (hx (c % 16)) = true ∧ hexB (hx (c / 16)) (hx (c % 16)) = c ∧ hx (c % 16) ≠ 44 ∧ hx (c % 16) ≠ 92 := by
  have := u8_every (p := fun c => hexQ (hx (c / 16)) (hx (c % 16)) && (hexB (hx (c / 16)) (hx (c % 16)) == c) && (hx (c % 16) != 44) && (hx (c % 16) != 92)) (by decide +kernel) c
  simp only [Bool.and_eq_true, beq_iff_eq, bne_iff_ne] at this
  exact ⟨this.1.1.1, this.1.1.2, this.1.2, this.2⟩
theorem esc_of_spc (c : UInt8) (h : (spc8 c || (c == 35 || c == 32)) = true) : esc8 c = true := by
  have := u8_every (p := fun c => !(spc8 c || (c == 35 || c == 32)) || esc8 c) (by decide +kernel) c
  rw [h] at this
  simpa using this
theorem spc_not (c : UInt8) (h : spc8 c = false) : c ≠ 92 ∧ c ≠ 44 := by
  have := u8_every (p := fun c => spc8 c || (c != 92 && c != 44)) (by decide +kernel) c
  rw [h] at this
  simpa using this
theorem hexH_esc (d : UInt8) (t : Str) (h : esc8 d = true) : hexH d t = false := by
  cases t with
  | nil => rfl
  | cons e u =>
    cases hq : hexQ d e with
    | false => exact hq
    | true => rw [hex_esc d e hq] at h; cases h
theorem escC_cases (f l : Bool) (c : UInt8) : (escC f l c = two8 c) ∨ (escC f l c = [92, c] ∧ esc8 c = true) ∨ (escC f l c = [c] ∧ c ≠ 92 ∧ c ≠ 44 ∧ bad8 f c = false ∧ (l = true → c ≠ 32)) := by
  unfold escC
  cases ho : odd8 c with
  | true => left; rfl
  | false =>
    right
    cases hs : (spc8 c || (f && (c == 35 || c == 32)) || (l && c == 32)) with
    | true =>
      left
      refine ⟨rfl, esc_of_spc c ?_⟩
      revert hs
      cases spc8 c <;> cases f <;> cases l <;> cases c == 35 <;> cases c == 32 <;> decide
    | false =>
      right
      rw [Bool.or_eq_false_iff, Bool.or_eq_false_iff] at hs
      have h1 := spc_not c hs.1.1
      refine ⟨rfl, h1.1, h1.2, ?_, fun hl h32 => ?_⟩
      · unfold bad8; rw [ho, hs.1.1, hs.1.2]; rfl
      · rw [hl, h32] at hs; exact absurd hs.2 (by decide)
theorem valG_esc : ∀ (t : Str) (f raw : Bool) (o : Str), (t = [] → raw = false) → valG f raw (escG f t) o = some (o ++ t)
  | [], f, raw, o, h => by
    rw [h rfl, List.append_nil]
    rfl
  | c :: t, f, raw, o, _ => by
    have ih : ∀ raw o, (t = [] → raw = false) → valG false raw (escG false t) o = some (o ++ t) := fun raw o h => valG_esc t false raw o h
    rw [escG_cons]
    rcases escC_cases f t.isEmpty c with h | ⟨h, he⟩ | ⟨h, h92, h44, hb, hl⟩
    · rw [h]
      obtain ⟨h1, h2, _, _⟩ := two_back c
      show valG f raw (92 :: hx (c / 16) :: hx (c % 16) :: escG false t) o = _
      rw [valG_cons, if_pos rfl]
      simp only
      rw [show hexH (hx (c / 16)) (hx (c % 16) :: escG false t) = hexQ (hx (c / 16)) (hx (c % 16)) from rfl, if_pos h1, h2, ih false _ (fun _ => rfl)]
      simp
    · rw [h]
      show valG f raw (92 :: c :: escG false t) o = _
      rw [valG_cons, if_pos rfl]
      simp only
      rw [hexH_esc c _ he, if_neg Bool.false_ne_true, if_pos he, ih false _ (fun _ => rfl)]
      simp
    · rw [h]
      show valG f raw (c :: escG false t) o = _
      rw [valG_cons, if_neg h92, if_neg (by rw [hb]; exact Bool.false_ne_true), ih (c == 32) _ (fun ht => by simpa using hl (by rw [ht]; rfl))]
      simp
theorem pcs_esc : ∀ (t : Str) (f : Bool) (r : Str), pcs (escG f t ++ r) = (escG f t ++ (pcs r).1, (pcs r).2)
  | [], f, r => rfl
  | c :: t, f, r => by
    have ih := pcs_esc t false r
    rw [escG_cons]
    rcases escC_cases f t.isEmpty c with h | ⟨h, he⟩ | ⟨h, h92, h44, _, _⟩
    · rw [h]
      obtain ⟨_, _, h3, h4⟩ := two_back c
      show pcs (92 :: hx (c / 16) :: hx (c % 16) :: (escG false t ++ r)) = _
      rw [pcs_cons, if_neg (by decide), if_pos rfl]
      simp only
      rw [pcs_cons, if_neg h3, if_neg h4, ih]
      rfl
    · rw [h]
      show pcs (92 :: c :: (escG false t ++ r)) = _
      rw [pcs_cons, if_neg (by decide), if_pos rfl]
      simp only
      rw [ih]
      rfl
    · rw [h]
      show pcs (c :: (escG false t ++ r)) = _
      rw [pcs_cons, if_neg h44, if_neg h92, ih]
      rfl
/-! A name's text says the name. -/
def piece (r : T_Rdn) : Str := r.Typ ++ 61 :: escS r.Val
theorem rdnR_piece {r : T_Rdn} (h : mayT r.Typ = true) : rdnR (piece r) = some r := by
  have hno := mayT_all h
  unfold rdnR piece
  rw [brk_typ _ _ fun c hc => (typ8_no c (hno c hc)).2.2]
  simp only
  unfold escS
  rw [valG_esc r.Val true false [] fun _ => rfl]
  rfl
theorem pcs_piece {r : T_Rdn} (h : mayT r.Typ = true) (x : Str) : pcs (piece r ++ x) = (piece r ++ (pcs x).1, (pcs x).2) := by
  have hno := mayT_all h
  unfold piece
  rw [List.append_assoc, List.cons_append, pcs_typ _ _ fun c hc => ⟨(typ8_no c (hno c hc)).1, (typ8_no c (hno c hc)).2.1⟩]
  unfold escS
  rw [pcs_esc]
  simp
theorem textG_cons (f : Bool) (r : T_Rdn) (l : List T_Rdn) : textG f (r :: l) = (bif f then [] else [44]) ++ (piece r ++ textG false l) := by
  unfold piece
  show (bif f then [] else [44]) ++ (r.Typ ++ ([61] ++ (escS r.Val ++ textG false l))) = _
  simp
theorem parR_text : ∀ (l : List T_Rdn), l ≠ [] → (∀ r ∈ l, mayT r.Typ = true) → parR (cutG [] (textG true l)) = some l
  | [], h, _ => absurd rfl h
  | [r], _, h => by
    have hr := h r (by simp)
    rw [textG_cons, cutG_pcs _ _ _ (Nat.le_refl _)]
    show parR (([] ++ (pcs (piece r ++ [])).1) :: _) = _
    rw [List.nil_append]
    have hp : pcs (piece r ++ []) = (piece r, []) := by rw [pcs_piece hr]; simp [pcs]
    show parR ((pcs (piece r ++ [])).1 :: (match (pcs (piece r ++ [])).2 with | [] => [] | _ :: r => cutG [] r)) = _
    rw [hp, parR_cons, rdnR_piece hr]
    rfl
  | r :: q :: l, _, h => by
    have hr := h r (by simp)
    have ih := parR_text (q :: l) (by simp) fun x hx => h x (by simp at hx ⊢; exact .inr hx)
    rw [textG_cons, cutG_pcs _ _ _ (Nat.le_refl _), List.nil_append]
    show parR ((pcs (piece r ++ textG false (q :: l))).1 :: (match (pcs (piece r ++ textG false (q :: l))).2 with | [] => [] | _ :: r => cutG [] r)) = _
    have ht : textG false (q :: l) = 44 :: textG true (q :: l) := by rw [textG_cons, textG_cons]; rfl
    have hp : pcs (piece r ++ textG false (q :: l)) = (piece r, 44 :: textG true (q :: l)) := by
      rw [pcs_piece hr, ht, pcs_cons, if_pos rfl]; simp
    rw [hp, parR_cons, rdnR_piece hr]
    simp only
    rw [ih]
    rfl
theorem parS_text {l : List T_Rdn} (h : mayN l = true) : parS (textS l) = some l := by
  unfold parS textS
  by_cases h0 : l = []
  · subst h0; rfl
  · have hm : ∀ r ∈ l, mayT r.Typ = true := fun r hr => by
      unfold mayN at h
      rw [Bool.and_eq_true] at h
      have := List.all_eq_true.1 h.1 r hr
      unfold mayR at this
      rw [Bool.and_eq_true, Bool.and_eq_true] at this
      exact this.1.1
    have hne : textG true l ≠ [] := by
      cases l with
      | nil => exact absurd rfl h0
      | cons r l => rw [textG_cons]; unfold piece; simp
    rw [if_neg hne, parR_text l h0 hm]
    simp [h]

/-! Folding, at its first byte. -/
theorem foldG_head : ∀ (t o : Str) (g : Bool) (x : UInt8), o.head? = some x → (foldG o g t).1.head? = some x
  | [], o, g, x, h => h
  | c :: t, o, g, x, h => by
    rw [foldG_cons]
    split
    · exact foldG_head t o _ x h
    · refine foldG_head t _ _ x ?_
      cases o with
      | nil => cases h
      | cons y o => simpa using h
theorem foldS_head (c : UInt8) (t : Str) (h : c ≠ 32) : (foldS (c :: t)).head? = some (low8 c) := by
  unfold foldS
  show (foldG [] false (low8 c :: lowS t)).1.head? = _
  rw [foldG_cons, if_neg (by rw [low8_32]; exact h)]
  exact foldG_head _ _ _ _ rfl
theorem foldS_blank (t : Str) : foldS (32 :: 32 :: t) = foldS t := by
  unfold foldS
  show (foldG [] false (low8 32 :: low8 32 :: lowS t)).1 = _
  rw [show low8 32 = 32 by decide, foldG_cons, if_pos rfl, foldG_cons, if_pos rfl]
  rfl
theorem foldS_low (t : Str) : foldS (lowS t) = foldS t := by unfold foldS; rw [lowS_lowS]
theorem normS_text {t v : Str} (hr : ruleS t = 1) (h0 : v ≠ []) (h1 : v.length ≤ 100) (h2 : foldS v ≠ []) : normS t v = some (foldS v) := by
  unfold normS
  rw [if_neg (by rintro (h | h); exact h0 h; omega), if_pos hr, if_neg h2]

def annA : List T_Attr := [⟨k_cn, [k_ann]⟩, ⟨k_objectclass, [k_person]⟩, ⟨k_sn, [k_s]⟩]
theorem e_Person (n : Str) (h : n.length ≤ 1000) : s_brooklaw4_Person n = some ⟨k_x636e3d ++ n ++ k_x2c6f3d78, [⟨k_cn, [n]⟩, ⟨k_objectclass, [k_person]⟩, ⟨k_sn, [k_s]⟩]⟩ := by
  unfold s_brooklaw4_Person
  rw [catO_eq (by simp; omega)]
  simp only [bS]
  rw [catO_eq (by simp; omega)]
  rfl
theorem names_law (s : Str) (up : Bool) : s_brooklaw4_SchemaNames s up = some true := by
  unfold s_brooklaw4_SchemaNames
  rw [show decide ((s.length : Int) > 30) = decide (30 < s.length) from gt_nat _ 30]
  by_cases hs : 30 < s.length
  · rw [decide_eq_true hs, cT, e_awake4]; rfl
  · rw [decide_eq_false hs, cF, catO_eq (by simp; omega)]
    simp only [bS]
    rw [catO_eq (by simp; omega)]
    simp only [bS]
    have hv : k_v ++ s ++ k_w = 118 :: (s ++ [119]) := rfl
    have hvl : (118 :: (s ++ [119]) : Str).length ≤ 32 := by simp; omega
    rw [hv]
    generalize hx : s ++ [119] = u at *
    have hx0 : (118 :: u : Str) ≠ [] := by simp
    have hf : (foldS (118 :: u)).head? = some 118 := foldS_head 118 u (by decide)
    have hf0 : foldS (118 :: u) ≠ [] := fun h => by rw [h] at hf; cases hf
    have hmay : mayN [⟨k_CN, 118 :: u⟩, ⟨k_o, k_x⟩] = true := by
      unfold mayN mayR
      have h1 : mayT k_CN = true := by decide
      have h2 : mayT k_o = true := by decide
      simp only [List.all_cons, List.all_nil, h1, h2, Bool.true_and, Bool.and_true]
      rw [decide_eq_true (show (118 :: u : Str).length ≤ 100 by omega)]
      rfl
    rw [e_r1_TextDn _ (by have := rdns_small hmay; omega) (by simp), e_Person k_ann (by decide), e_r1_Lower _ (by omega)]
    simp only [bS]
    rw [catO_eq (by simp at hvl ⊢; omega)]
    simp only [bS]
    have hp := parS_text hmay
    have hfold : foldN [⟨k_CN, 118 :: u⟩, ⟨k_o, k_x⟩] ≠ none := by
      unfold foldN
      rw [if_neg hf0]
      have : foldN [⟨k_o, k_x⟩] = some [⟨k_o, k_x⟩] := by kernel_rfl
      rw [this]
      simp
    have htl : (textS [⟨k_CN, 118 :: u⟩, ⟨k_o, k_x⟩]).length ≤ 1000000 := by
      have h1 := textG_len [⟨k_CN, 118 :: u⟩, ⟨k_o, k_x⟩] true
      have h2 := rdns_small hmay
      unfold textS
      omega
    have n1 : normS k_CN (118 :: u) = some (foldS (118 :: u)) := normS_text (by decide) hx0 (by omega) hf0
    have n1' : normS k_cn (118 :: u) = some (foldS (118 :: u)) := normS_text (by decide) hx0 (by omega) hf0
    have e64 : checkG ⟨textS [⟨k_CN, 118 :: u⟩, ⟨k_o, k_x⟩], annA⟩ = 64 := by
      unfold checkG
      rw [hp]
      simp only
      rw [if_neg hfold, if_neg (by decide), show attrsG [] annA = 0 by decide +kernel, if_neg (by decide)]
      have hcl : ∀ d, classedR ⟨d, annA⟩ = true := fun d => by
        show classedR ⟨[], annA⟩ = true
        decide +kernel
      rw [hcl, if_neg (by decide)]
      have hva : valsG annA (lowS k_CN) = [k_ann] := by decide
      rw [hva]
      have : sameS k_CN k_ann (118 :: u) = false := by
        unfold sameS
        rw [n1, show normS k_CN k_ann = some k_ann by decide +kernel]
        simp only [Option.isSome_some, Bool.true_and, Option.getD_some]
        rw [beq_eq_false_iff_ne]
        intro h
        rw [← h] at hf
        exact absurd hf (by decide)
      simp [this]
    have nb : normS k_cn (k_x2020 ++ lowS (118 :: u)) = some (foldS (118 :: u)) := by
      have hfe : foldS (k_x2020 ++ lowS (118 :: u)) = foldS (118 :: u) := by
        show foldS (32 :: 32 :: lowS (118 :: u)) = _
        rw [foldS_blank, foldS_low]
      rw [normS_text (by decide) (by simp) (by simp at hvl ⊢; omega) (by rw [hfe]; exact hf0), hfe]
    have hns : normsS k_cn [k_other, k_x2020 ++ lowS (118 :: u)] = some [k_other, foldS (118 :: u)] := by
      unfold normsS
      rw [show normS k_cn k_other = some k_other by decide +kernel]
      simp only
      unfold normsS
      rw [nb]
      rfl
    have hnd : [k_other, foldS (118 :: u)].Nodup := by
      simp only [List.nodup_cons, List.mem_singleton, List.not_mem_nil, not_false_eq_true, List.nodup_nil, and_true]
      intro h
      rw [← h] at hf
      exact absurd hf (by decide)
    have e0 : checkG ⟨textS [⟨k_CN, 118 :: u⟩, ⟨k_o, k_x⟩], [⟨k_cn, [k_other, k_x2020 ++ lowS (118 :: u)]⟩, ⟨k_objectclass, [k_person]⟩, ⟨k_sn, [k_s]⟩]⟩ = 0 := by
      unfold checkG
      rw [hp]
      simp only
      have a0 : attrG ⟨k_cn, [k_other, k_x2020 ++ lowS (118 :: u)]⟩ false = 0 := by
        unfold attrG
        rw [if_neg (show ¬ ruleS k_cn = 0 by decide), if_neg Bool.false_ne_true, if_neg (by simp; decide)]
        simp only
        rw [hns]
        simp only
        rw [if_pos hnd]
      have c1 : attrsG [] [⟨k_cn, [k_other, k_x2020 ++ lowS (118 :: u)]⟩, ⟨k_objectclass, [k_person]⟩, ⟨k_sn, [k_s]⟩] = if attrG ⟨k_cn, [k_other, k_x2020 ++ lowS (118 :: u)]⟩ false = 0 then (if attrG ⟨k_objectclass, [k_person]⟩ false = 0 then (if attrG ⟨k_sn, [k_s]⟩ false = 0 then 0 else attrG ⟨k_sn, [k_s]⟩ false) else attrG ⟨k_objectclass, [k_person]⟩ false) else attrG ⟨k_cn, [k_other, k_x2020 ++ lowS (118 :: u)]⟩ false := rfl
      have a1 : attrsG [] [⟨k_cn, [k_other, k_x2020 ++ lowS (118 :: u)]⟩, ⟨k_objectclass, [k_person]⟩, ⟨k_sn, [k_s]⟩] = 0 := by
        rw [c1, a0, show attrG ⟨k_objectclass, [k_person]⟩ false = 0 by decide +kernel, show attrG ⟨k_sn, [k_s]⟩ false = 0 by decide +kernel]
        rfl
      rw [if_neg hfold, if_neg (by simp), a1, if_neg (by decide)]
      have hcl : classedR ⟨textS [⟨k_CN, 118 :: u⟩, ⟨k_o, k_x⟩], [⟨k_cn, [k_other, k_x2020 ++ lowS (118 :: u)]⟩, ⟨k_objectclass, [k_person]⟩, ⟨k_sn, [k_s]⟩]⟩ = true := by
        have hg : valsG [(⟨k_cn, [k_other, k_x2020 ++ lowS (118 :: u)]⟩ : T_Attr), ⟨k_objectclass, [k_person]⟩, ⟨k_sn, [k_s]⟩] k_objectclass = [k_person] := rfl
        unfold classedR
        simp only
        rw [hg, show clsG [k_person] false [] [] = some (true, [k_cn, k_sn, k_objectclass], [k_description, k_userpassword]) by rfl]
        rfl
      rw [hcl, if_neg (by decide)]
      have hva : valsG [(⟨k_cn, [k_other, k_x2020 ++ lowS (118 :: u)]⟩ : T_Attr), ⟨k_objectclass, [k_person]⟩, ⟨k_sn, [k_s]⟩] (lowS k_CN) = [k_other, k_x2020 ++ lowS (118 :: u)] := rfl
      rw [hva]
      have hsame : sameS k_CN (k_x2020 ++ lowS (118 :: u)) (118 :: u) = true := by
        rw [← sameS_low, show lowS k_CN = k_cn by decide]
        unfold sameS
        rw [nb, n1']
        simp
      simp only [List.any_cons, hsame, Bool.true_or, Bool.or_true]
      rw [if_neg (by decide)]
    have sm1 : SmallE ⟨textS [⟨k_CN, 118 :: u⟩, ⟨k_o, k_x⟩], annA⟩ := ⟨htl, by simp [annA], fun a ha => by
      simp only [annA, List.mem_cons, List.not_mem_nil, or_false] at ha
      rcases ha with rfl | rfl | rfl <;> exact ⟨by decide, by decide, by decide⟩⟩
    have sm2 : SmallE ⟨textS [⟨k_CN, 118 :: u⟩, ⟨k_o, k_x⟩], [⟨k_cn, [k_other, k_x2020 ++ lowS (118 :: u)]⟩, ⟨k_objectclass, [k_person]⟩, ⟨k_sn, [k_s]⟩]⟩ := ⟨htl, by simp, fun a ha => by
      simp only [List.mem_cons, List.not_mem_nil, or_false] at ha
      rcases ha with rfl | rfl | rfl
      · refine ⟨by simp, by simp, fun v hv => ?_⟩
        simp only [List.mem_cons, List.not_mem_nil, or_false] at hv
        rcases hv with rfl | rfl
        · decide
        · simp at hvl ⊢; omega
      · exact ⟨by decide, by decide, by decide⟩
      · exact ⟨by decide, by decide, by decide⟩⟩
    rw [show lgetO [(⟨k_cn, [k_ann]⟩ : T_Attr), ⟨k_objectclass, [k_person]⟩, ⟨k_sn, [k_s]⟩] 1 = some ⟨k_objectclass, [k_person]⟩ from rfl, show lgetO [(⟨k_cn, [k_ann]⟩ : T_Attr), ⟨k_objectclass, [k_person]⟩, ⟨k_sn, [k_s]⟩] 2 = some ⟨k_sn, [k_s]⟩ from rfl]
    simp only [bS]
    have x1 : s_schema_Check ⟨textS [⟨k_CN, 118 :: u⟩, ⟨k_o, k_x⟩], [⟨k_cn, [k_ann]⟩, ⟨k_objectclass, [k_person]⟩, ⟨k_sn, [k_s]⟩]⟩ = some 64 := (e_schema_Check sm1).trans (by rw [e64])
    rw [x1, e_schema_Check sm2, e0, e_awake4]
    rfl
end Go.Ka
