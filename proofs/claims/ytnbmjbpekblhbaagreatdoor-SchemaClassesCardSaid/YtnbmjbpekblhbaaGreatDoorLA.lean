/- The library's functions at this program: contracts off the shelf, as the walk's. -/
import Derived.Test.YtnbmjbpekblhbaaGreatDoorKaLn
import Derived.Test.YtnbmjbpekblhbaaGreatDoorLB
import Derived.Test.YtnbmjbpekblhbaaGreatDoorKaFa
import Derived.Test.YtnbmjbpekblhbaaGreatDoorSh
set_option linter.all false
namespace Go.Ka
open Go.Proofs Go.RowKit
/-- The tables that the library reads. -/
class Tabs [Tab] : Prop where
  pow : ∀ w, TabOn w → Lib.TabIs Tryz.prog w "internal/strconv.uint64pow10" .u64 Lib.pow10Tab
  asc : ∀ w, TabOn w → Lib.TabIs Tryz.prog w "strings.asciiSpace" .u8 Lib.asciiSpaceTab
  syn : ∀ w, TabOn w → ∃ t v, w.cell? ⟨5, 0, none⟩ = some (.iface t v)
  rng : ∀ w, TabOn w → ∃ t v, w.cell? ⟨6, 0, none⟩ = some (.iface t v)
variable [Tab] [Tabs]

theorem l_indexByte (s : Str) (c : UInt8) (r : Int) (h : s_indexByte s c = some r) : Pu Tryz.prog 95 [tx s, u8 c] (i64 r) := by
  cases h
  refine pu_val (vs := [str s, .int .u8 c.toNat]) nfv Pl.val fun w _ => ?_
  refine (Tryz.strings_IndexByte ⟨s.toArray⟩ c.toNat w).mono fun e w' hx => ?_
  obtain ⟨rfl, rfl⟩ := hx
  exact ⟨_, rfl, by simp; exact .val _ rfl, below_self _⟩
theorem l_indexByteL (s : Str) (c : UInt8) (r : Int) (h : s_indexByte s c = some r) : Pu Tryz.prog 121 [tx s, u8 c] (i64 r) := by
  cases h
  refine pu_val (vs := [str s, .int .u8 c.toNat]) nfv Pl.val fun w _ => ?_
  refine (Tryz.stringslite_IndexByte ⟨s.toArray⟩ c.toNat w).mono fun e w' hx => ?_
  obtain ⟨rfl, rfl⟩ := hx
  exact ⟨_, rfl, by simp; exact .val _ rfl, below_self _⟩
theorem l_trimPrefix (s p r : Str) (h : s_trimPrefix s p = some r) : Pu Tryz.prog 106 [tx s, tx p] (tx r) := by
  cases h
  refine pu_val (vs := [str s, str p]) nfv Pl.val fun w _ => ?_
  refine (Tryz.strings_TrimPrefix ⟨s.toArray⟩ ⟨p.toArray⟩ w).mono fun e w' hx => ?_
  obtain ⟨rfl, rfl⟩ := hx
  exact ⟨_, rfl, by simp; exact .val _ rfl, below_self _⟩
theorem l_trim (s t r : Str) (h : s_trim s t = some r) : Pu Tryz.prog 79 [tx s, tx t] (tx r) := by
  unfold s_trim at h
  split at h
  · rename_i c
    obtain ⟨hb, rfl⟩ := okO_inv h
    simp only [Bool.and_eq_true, decide_eq_true_eq] at hb
    refine pu_val (vs := [str s, str [c]]) nfv Pl.val fun w _ => ?_
    refine (Tryz.strings_Trim_one ⟨s.toArray⟩ c hb.1 w (by simpa [ByteArray.size] using hb.2)).mono fun e w' hx => ?_
    obtain ⟨rfl, hw⟩ := hx
    refine ⟨_, rfl, by simp; exact .val _ rfl, ?_⟩
    rcases hw with rfl | rfl
    · exact below_self _
    · exact below_drew _
  · cases h
theorem l_itoa (n : Int) (r : Str) (h : s_itoa n = some r) : Pu Tryz.prog 105 [i64 n] (tx r) := by
  obtain ⟨hb, rfl⟩ := okO_inv h
  have hb := inR_iff.1 hb
  refine pu_val (vs := [.int .i64 n]) nfv Pl.val fun w ht => ?_
  refine (Tryz.strconv_Itoa n (by omega) (by omega) w (Tabs.pow w ht)).mono fun e w' hx => ?_
  obtain ⟨rfl, k, os, rfl⟩ := hx
  exact ⟨_, rfl, .val _ rfl, rfl, rfl, rfl, by simp [Sort.grow, World.drewN], fun b hb => by simp [Sort.grow, World.drewN, Array.getElem?_append_left hb]⟩
theorem below_bytes (w : World) (n : TypeId) (t : ByteArray) : Below w.heap.size w (Lib.bytesWorld w n t) := by
  unfold Lib.bytesWorld World.freeze
  split
  · exact ⟨rfl, rfl, rfl, by show _ ≤ (w.heap.push _).size; simp, fun b hb => by show (w.heap.push _)[b]? = _; rw [Array.getElem?_push_lt hb]; simp [hb]⟩
  · refine ⟨rfl, rfl, rfl, by show _ ≤ ((w.heap.push _).modify _ _).size; simp, fun b hb => ?_⟩
    show ((w.heap.push _).modify w.heap.size _)[b]? = _
    rw [Array.getElem?_modify, if_neg (by omega), Array.getElem?_push_lt hb]
    simp [hb]
theorem l_atoi (s : Str) (r : Int × Bool) (h : s_atoi s = some r) : Pu Tryz.prog 104 [tx s] (.tup [i64 r.1, er r.2]) := by
  obtain ⟨hb, rfl⟩ := okO_inv h
  have hb : s.length ≤ 281474976710656 := by simpa using hb
  refine pu_val (vs := [str s]) (NF.tup (nfc nfv (nfc nfr nfn))) (Pl.tup (plc Pl.val (plc Pl.er pln))) fun w ht => ?_
  have hsz : (⟨s.toArray⟩ : ByteArray).size ≤ 281474976710656 := by simpa [ByteArray.size] using hb
  cases hc : Lib.atoiAll s with
  | ok v =>
    refine (Tryz.strconv_Atoi_ok ⟨s.toArray⟩ (by omega) v hc w).mono fun e w' hx => ?_
    obtain ⟨rfl, hw⟩ := hx
    refine ⟨_, rfl, .tup [_, _] _ rfl (fun j v u hv hu => ?_), ?_⟩
    · match j with
      | 0 => simp at hv hu; subst hv; subst hu; exact .val _ rfl
      | 1 => simp at hv hu; subst hv; subst hu; exact .val _ rfl
      | j + 2 => simp at hv
    · rcases hw with rfl | ⟨t, rfl⟩
      · exact below_self _
      · exact below_bytes _ _ _
  | range =>
    obtain ⟨t, v, hv⟩ := Tabs.rng w ht
    refine (Tryz.strconv_Atoi_range ⟨s.toArray⟩ hsz hc _ w hv (.inr ⟨t, v, rfl⟩)).mono fun e w' hx => ?_
    obtain ⟨N, rfl, _, _, hbl⟩ := hx
    refine ⟨_, rfl, .tup [_, _] _ rfl (fun j v u hv hu => ?_), hbl⟩
    match j with
      | 0 => simp at hv hu; subst hv; subst hu; exact .val _ rfl
      | 1 => simp at hv hu; subst hv; subst hu; exact .nz _ _
      | j + 2 => simp at hv
  | _ =>
    obtain ⟨t, v, hv⟩ := Tabs.syn w ht
    refine (Tryz.strconv_Atoi_none ⟨s.toArray⟩ hsz hc _ w hv (.inr ⟨t, v, rfl⟩)).mono fun e w' hx => ?_
    obtain ⟨N, rfl, _, _, hbl⟩ := hx
    refine ⟨_, rfl, .tup [_, _] _ rfl (fun j v u hv hu => ?_), hbl⟩
    match j with
      | 0 => simp at hv hu; subst hv; subst hu; exact .val _ rfl
      | 1 => simp at hv hu; subst hv; subst hu; exact .nz _ _
      | j + 2 => simp at hv
theorem l_sortS {id n : Nat} (hid : Nat.blt id n = true) (l : List Str) (u : Unit) (h : s_sortS l = some u) : Fx Tryz.prog 52 [.own id 0 l.length] (hl [(id, ob l)]) n (.tup []) [(id, some (ob (sortL l)))] :=
  sort_fx (fun p cap w => Tryz.slices_Sort_string_none p cap w) (fun b o c ss w h1 h2 h3 => Tryz.slices_Sort_string b o c ss w h1 h2 h3) h (by simpa using hid)
theorem l_compactS {id n : Nat} (hid : Nat.blt id n = true) (l l' : List Str) (h : s_compactS l = some l') : Fx Tryz.prog 53 [.own id 0 l.length] (hl [(id, ob l)]) n (.own id 0 l'.length) [(id, some (ob (l' ++ List.replicate (l.length - l'.length) [])))] :=
  compact_fx (fun p cap w => Tryz.slices_Compact_string_empty p cap w) (fun b o c zs w h1 h2 h3 => Tryz.slices_Compact_string b o c zs w h1 h2 h3) h (by simpa using hid)
theorem l_cloneS (l l' : List Str) (h : s_cloneS l = some l') : Nw Tryz.prog 26 [ar l] (fun id => .own id 0 l'.length) (ob l') :=
  nw_cloneS (fun n c w => Tryz.slices_Clone_string_nil n c w) (fun a c w => Tryz.slices_Clone_string_zero a c w) (fun b o n c zs w h1 h2 h3 => Tryz.slices_Clone_string b o n c zs w h1 h2 h3) h
theorem l_fields (s : Str) (l : List Str) (h : s_fields s = some l) : Nw Tryz.prog 42 [tx s] (fun id => .own id 0 l.length) (ob l) :=
  nw_fields (fun s w ht h1 h2 => Tryz.strings_Fields_laid s w h1 h2 (Tabs.asc w ht)) h
theorem l_copyCheck {s k m e n : Nat} (hs : Nat.blt s n = true) (hk : Nat.blt k n = true) : Fx Tryz.prog 103 [.ptr s 0 0] (hl [(s, bO s k m 105 e)]) n (.tup []) [(s, some (bO s k m 105 e))] :=
  fx_cc (fun b w h => cc_used b w h) (fun b w h1 h2 h3 => cc_fresh b w h1 h2 h3) hs hk
end Go.Ka
