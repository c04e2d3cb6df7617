/- What the types of this program say. How the laws' arguments read. DERIVED: THE SHELF's CONTRACTS AT THIS DUMP, IN PLAIN WORDS (tools/lay-plain.mjs out of 'TryzShelf.lean', which tools/lay-shelf.mjs wrote): THE SAME DECLARATIONS UNDER THE SAME NAMES: 'import', 'namespace', 'open', 'def', 'theorem' AND NOTHING ELSE: no command of the shelf's: FOR A HAND-IN. Each laying: the table of numbers ('.._ren') and one theorem, a field a fact of the dump's own or the kernel's comparison; each contract: ONE APPLICATION. strings.Builder's copyCheck at this program. The library's functions at this program: contracts off the shelf, as the walk's. -/
import Derived.Test.YtnbmjbpekblhbaaGreatDoorMB
import Derived.Test.YtnbmjbpekblhbaaGreatDoorMC
import Derived.Test.YtnbmjbpekblhbaaGreatDoorProg
import Derived.Shelf.Strings.Builder1
import Derived.Shelf.Strings.Trim
import Derived.Shelf.Small.Utf8
import Derived.Shelf.Small.Bits
import Derived.Shelf.Small.Strs
import Derived.Shelf.Strconv.Atoi
import Derived.Shelf.Strconv.Itoa0
import Derived.Shelf.Strconv.Itoa1
import Derived.Shelf.LaysM
import Derived.Shelf.Strconv.Itoa2
import Derived.Shelf.Strconv.Itoa3
import Derived.Shelf.Strconv.AtoiErrFast
import Derived.Shelf.Strconv.ParseIntEmpty
import Derived.Shelf.Strconv.AtoiFail
import Derived.Shelf.Strconv.Clone
import Derived.Shelf.Strconv.SyntaxError
import Derived.Shelf.LaysC
import Derived.Shelf.Strconv.ToError
import Derived.Shelf.Strconv.Lower
import Derived.Shelf.Strconv.ParseUint10
import Derived.Shelf.Strconv.ParseUint10Empty
import Derived.Shelf.Strconv.ParseUint10Any
import Derived.Shelf.Strconv.ParseInt10
import Derived.Shelf.Strconv.AtoiLong
import Derived.Shelf.Strconv.AtoiInnerAll
import Derived.Shelf.Strconv.RangeError
import Derived.Shelf.Strconv.ToErrorRange
import Derived.Shelf.Strconv.AtoiAll
import Derived.Shelf.Strings.Search1
import Derived.Shelf.Strings.Search2
import Derived.Shelf.Strings.Cut
import Derived.Shelf.Strings.Shaped
import Derived.Shelf.Sort.Plain
import Derived.Shelf.Strings.Prefix
import Derived.Shelf.Strings.Fields
import Derived.Shelf.Strings.SplitShaped
import Derived.Shelf.Unicode.Latin
import Derived.Shelf.Unicode.Decode
import Derived.Shelf.Strings.Runes
import Derived.Shelf.Strings.AsciiSet
import Derived.Shelf.Unicode.DecodeSlow
import Derived.Shelf.Unicode.DecodeAny
import Derived.Shelf.Unicode.Is16White
import Derived.Shelf.Unicode.IsSpaceAny
import Derived.Shelf.Unicode.DecodeLast
import Derived.Shelf.Unicode.Is16Any
import Derived.Shelf.Unicode.Is32Any
import Derived.Shelf.Unicode.ExclAny
import Derived.Ground.Names2Prog
import Derived.Shelf.Slices.Clone
import Derived.Shelf.Slices.CompactS
import Derived.Shelf.Slices.Cells
import Derived.Shelf.Slices.In.SortNone
import Derived.Ground.SlgnProg
import Derived.Shelf.SlicesE.Clone
set_option linter.all false
namespace Go.Ka.Tryz
open Go.Proofs
theorem mixed : Tryz.prog.follows .mixedOrders = true := by kernel_rfl
theorem A77 : Ar Tryz.prog 77 5 1 [.val (.string ⟨#[]⟩), .val (.string ⟨#[]⟩), .val (.string ⟨#[]⟩), .val (.string ⟨#[]⟩), .val (.string ⟨#[]⟩)] := ⟨9, by kernel_rfl, by kernel_rfl, by kernel_rfl⟩
theorem B119 : Bd Tryz.prog 119 [.val (.int .i64 0), .val (.bool false)] [(0, 1), (1, 1)] := ⟨by kernel_rfl, by kernel_rfl⟩
theorem B24 : Bd Tryz.prog 24 [.val (.string ⟨#[]⟩), .val (.slice none 0 0)] [(0, 1), (1, 1)] := ⟨by kernel_rfl, by kernel_rfl⟩
theorem B29 : Bd Tryz.prog 29 [.val (.string ⟨#[]⟩), .val (.string ⟨#[]⟩), .val (.bool false), .val (.slice none 0 0), .val (.slice none 0 0)] [(0, 1), (1, 1), (2, 1), (3, 1), (4, 1)] := ⟨by kernel_rfl, by kernel_rfl⟩
theorem B33 : Bd Tryz.prog 33 [.val (.string ⟨#[]⟩), .val (.string ⟨#[]⟩), .val (.bool false), .val (.slice none 0 0), .val (.slice none 0 0), .val (.bool false)] [(0, 5), (5, 1)] := ⟨by kernel_rfl, by kernel_rfl⟩
theorem B42 : Bd Tryz.prog 42 [.val (.string ⟨#[]⟩), .val (.slice none 0 0)] [(0, 1), (1, 1)] := ⟨by kernel_rfl, by kernel_rfl⟩
theorem B49 : Bd Tryz.prog 49 [.val (.string ⟨#[]⟩), .val (.string ⟨#[]⟩)] [(0, 1), (1, 1)] := ⟨by kernel_rfl, by kernel_rfl⟩
theorem B69 : Bd Tryz.prog 69 [.val (.slice none 0 0), .val (.bool false)] [(0, 1), (1, 1)] := ⟨by kernel_rfl, by kernel_rfl⟩
theorem B72 : Bd Tryz.prog 72 [.val (.string ⟨#[]⟩), .val (.bool false)] [(0, 1), (1, 1)] := ⟨by kernel_rfl, by kernel_rfl⟩
theorem D136 : Tryz.prog.underlying 136 = some (.pointer 5) := by kernel_rfl
theorem E22 : El Tryz.prog 22 2 40 := ⟨42, [.val (.string ⟨#[]⟩), .val (.slice none 0 0)], by kernel_rfl, by kernel_rfl, by kernel_rfl, by kernel_rfl, rfl, by decide⟩
theorem E27 : El Tryz.prog 27 1 16 := ⟨9, [.val (.string ⟨#[]⟩)], by kernel_rfl, by kernel_rfl, by kernel_rfl, by kernel_rfl, rfl, by decide⟩
theorem E38 : El Tryz.prog 38 1 1 := ⟨5, [.val (.int .u8 0)], by kernel_rfl, by kernel_rfl, by kernel_rfl, by kernel_rfl, rfl, by decide⟩
theorem E50 : El Tryz.prog 50 2 32 := ⟨49, [.val (.string ⟨#[]⟩), .val (.string ⟨#[]⟩)], by kernel_rfl, by kernel_rfl, by kernel_rfl, by kernel_rfl, rfl, by decide⟩
theorem E54 : El Tryz.prog 54 1 8 := ⟨3, [.val (.int .i64 0)], by kernel_rfl, by kernel_rfl, by kernel_rfl, by kernel_rfl, rfl, by decide⟩
theorem E55 : El Tryz.prog 55 5 88 := ⟨29, [.val (.string ⟨#[]⟩), .val (.string ⟨#[]⟩), .val (.bool false), .val (.slice none 0 0), .val (.slice none 0 0)], by kernel_rfl, by kernel_rfl, by kernel_rfl, by kernel_rfl, rfl, by decide⟩
theorem E78 : El Tryz.prog 78 5 80 := ⟨77, [.val (.string ⟨#[]⟩), .val (.string ⟨#[]⟩), .val (.string ⟨#[]⟩), .val (.string ⟨#[]⟩), .val (.string ⟨#[]⟩)], by kernel_rfl, by kernel_rfl, by kernel_rfl, by kernel_rfl, rfl, by decide⟩
theorem F105_1 : Fa Tryz.prog 105 1 1 := ⟨38, 1, by kernel_rfl, by kernel_rfl, by decide⟩
theorem F24_0 : Fa Tryz.prog 24 0 0 := ⟨9, 1, by kernel_rfl, by kernel_rfl, by decide⟩
theorem F24_1 : Fa Tryz.prog 24 1 1 := ⟨22, 1, by kernel_rfl, by kernel_rfl, by decide⟩
theorem F29_0 : Fa Tryz.prog 29 0 0 := ⟨9, 1, by kernel_rfl, by kernel_rfl, by decide⟩
theorem F29_1 : Fa Tryz.prog 29 1 1 := ⟨9, 1, by kernel_rfl, by kernel_rfl, by decide⟩
theorem F29_2 : Fa Tryz.prog 29 2 2 := ⟨4, 1, by kernel_rfl, by kernel_rfl, by decide⟩
theorem F29_3 : Fa Tryz.prog 29 3 3 := ⟨27, 1, by kernel_rfl, by kernel_rfl, by decide⟩
theorem F29_4 : Fa Tryz.prog 29 4 4 := ⟨27, 1, by kernel_rfl, by kernel_rfl, by decide⟩
theorem F33_0 : Fa Tryz.prog 33 0 0 := ⟨29, 5, by kernel_rfl, by kernel_rfl, by decide⟩
theorem F33_1 : Fa Tryz.prog 33 1 5 := ⟨4, 1, by kernel_rfl, by kernel_rfl, by decide⟩
theorem F42_0 : Fa Tryz.prog 42 0 0 := ⟨9, 1, by kernel_rfl, by kernel_rfl, by decide⟩
theorem F42_1 : Fa Tryz.prog 42 1 1 := ⟨27, 1, by kernel_rfl, by kernel_rfl, by decide⟩
theorem F49_0 : Fa Tryz.prog 49 0 0 := ⟨9, 1, by kernel_rfl, by kernel_rfl, by decide⟩
theorem F49_1 : Fa Tryz.prog 49 1 1 := ⟨9, 1, by kernel_rfl, by kernel_rfl, by decide⟩
theorem F69_0 : Fa Tryz.prog 69 0 0 := ⟨50, 1, by kernel_rfl, by kernel_rfl, by decide⟩
theorem F69_1 : Fa Tryz.prog 69 1 1 := ⟨4, 1, by kernel_rfl, by kernel_rfl, by decide⟩
theorem F72_0 : Fa Tryz.prog 72 0 0 := ⟨9, 1, by kernel_rfl, by kernel_rfl, by decide⟩
theorem F72_1 : Fa Tryz.prog 72 1 1 := ⟨4, 1, by kernel_rfl, by kernel_rfl, by decide⟩
theorem L119 : Ld Tryz.prog 119 true 2 := ⟨by kernel_rfl, by kernel_rfl⟩
theorem L22 : Ld Tryz.prog 22 false 1 := ⟨by kernel_rfl, by kernel_rfl⟩
theorem L24 : Ld Tryz.prog 24 true 2 := ⟨by kernel_rfl, by kernel_rfl⟩
theorem L27 : Ld Tryz.prog 27 false 1 := ⟨by kernel_rfl, by kernel_rfl⟩
theorem L29 : Ld Tryz.prog 29 true 5 := ⟨by kernel_rfl, by kernel_rfl⟩
theorem L3 : Ld Tryz.prog 3 false 1 := ⟨by kernel_rfl, by kernel_rfl⟩
theorem L33 : Ld Tryz.prog 33 true 6 := ⟨by kernel_rfl, by kernel_rfl⟩
theorem L38 : Ld Tryz.prog 38 false 1 := ⟨by kernel_rfl, by kernel_rfl⟩
theorem L4 : Ld Tryz.prog 4 false 1 := ⟨by kernel_rfl, by kernel_rfl⟩
theorem L42 : Ld Tryz.prog 42 true 2 := ⟨by kernel_rfl, by kernel_rfl⟩
theorem L49 : Ld Tryz.prog 49 true 2 := ⟨by kernel_rfl, by kernel_rfl⟩
theorem L5 : Ld Tryz.prog 5 false 1 := ⟨by kernel_rfl, by kernel_rfl⟩
theorem L50 : Ld Tryz.prog 50 false 1 := ⟨by kernel_rfl, by kernel_rfl⟩
theorem L69 : Ld Tryz.prog 69 true 2 := ⟨by kernel_rfl, by kernel_rfl⟩
theorem L72 : Ld Tryz.prog 72 true 2 := ⟨by kernel_rfl, by kernel_rfl⟩
theorem L77 : Ld Tryz.prog 77 true 5 := ⟨by kernel_rfl, by kernel_rfl⟩
theorem L9 : Ld Tryz.prog 9 false 1 := ⟨by kernel_rfl, by kernel_rfl⟩
theorem M54 : elOf Tryz.prog 54 = some 3 ∧ szOf Tryz.prog 3 = some 1 ∧ bytOf Tryz.prog 3 = some 8 ∧ zcells Tryz.prog 3 = some [.val (.int .i64 0)] := ⟨by kernel_rfl, by kernel_rfl, by kernel_rfl, by kernel_rfl⟩
theorem N107 : Tryz.prog.underlying 107 = some (.interface (Tryz.prog.methodsAt 107)) := by kernel_rfl
theorem P10 : plain Tryz.prog 10 = true := by kernel_rfl
theorem P103 : plain Tryz.prog 103 = true := by kernel_rfl
theorem P104 : plain Tryz.prog 104 = true := by kernel_rfl
theorem P105 : plain Tryz.prog 105 = true := by kernel_rfl
theorem P106 : plain Tryz.prog 106 = true := by kernel_rfl
theorem P11 : plain Tryz.prog 11 = true := by kernel_rfl
theorem P118 : plain Tryz.prog 118 = true := by kernel_rfl
theorem P12 : plain Tryz.prog 12 = true := by kernel_rfl
theorem P121 : plain Tryz.prog 121 = true := by kernel_rfl
theorem P13 : plain Tryz.prog 13 = true := by kernel_rfl
theorem P14 : plain Tryz.prog 14 = true := by kernel_rfl
theorem P15 : plain Tryz.prog 15 = true := by kernel_rfl
theorem P16 : plain Tryz.prog 16 = true := by kernel_rfl
theorem P17 : plain Tryz.prog 17 = true := by kernel_rfl
theorem P18 : plain Tryz.prog 18 = true := by kernel_rfl
theorem P19 : plain Tryz.prog 19 = true := by kernel_rfl
theorem P20 : plain Tryz.prog 20 = true := by kernel_rfl
theorem P21 : plain Tryz.prog 21 = true := by kernel_rfl
theorem P22 : plain Tryz.prog 22 = true := by kernel_rfl
theorem P23 : plain Tryz.prog 23 = true := by kernel_rfl
theorem P24 : plain Tryz.prog 24 = true := by kernel_rfl
theorem P25 : plain Tryz.prog 25 = true := by kernel_rfl
theorem P26 : plain Tryz.prog 26 = true := by kernel_rfl
theorem P27 : plain Tryz.prog 27 = true := by kernel_rfl
theorem P28 : plain Tryz.prog 28 = true := by kernel_rfl
theorem P29 : plain Tryz.prog 29 = true := by kernel_rfl
theorem P30 : plain Tryz.prog 30 = true := by kernel_rfl
theorem P31 : plain Tryz.prog 31 = true := by kernel_rfl
theorem P32 : plain Tryz.prog 32 = true := by kernel_rfl
theorem P33 : plain Tryz.prog 33 = true := by kernel_rfl
theorem P34 : plain Tryz.prog 34 = true := by kernel_rfl
theorem P35 : plain Tryz.prog 35 = true := by kernel_rfl
theorem P36 : plain Tryz.prog 36 = true := by kernel_rfl
theorem P37 : plain Tryz.prog 37 = true := by kernel_rfl
theorem P38 : plain Tryz.prog 38 = true := by kernel_rfl
theorem P39 : plain Tryz.prog 39 = true := by kernel_rfl
theorem P40 : plain Tryz.prog 40 = true := by kernel_rfl
theorem P41 : plain Tryz.prog 41 = true := by kernel_rfl
theorem P42 : plain Tryz.prog 42 = true := by kernel_rfl
theorem P43 : plain Tryz.prog 43 = true := by kernel_rfl
theorem P44 : plain Tryz.prog 44 = true := by kernel_rfl
theorem P45 : plain Tryz.prog 45 = true := by kernel_rfl
theorem P46 : plain Tryz.prog 46 = true := by kernel_rfl
theorem P47 : plain Tryz.prog 47 = true := by kernel_rfl
theorem P48 : plain Tryz.prog 48 = true := by kernel_rfl
theorem P49 : plain Tryz.prog 49 = true := by kernel_rfl
theorem P50 : plain Tryz.prog 50 = true := by kernel_rfl
theorem P51 : plain Tryz.prog 51 = true := by kernel_rfl
theorem P52 : plain Tryz.prog 52 = true := by kernel_rfl
theorem P53 : plain Tryz.prog 53 = true := by kernel_rfl
theorem P54 : plain Tryz.prog 54 = true := by kernel_rfl
theorem P55 : plain Tryz.prog 55 = true := by kernel_rfl
theorem P56 : plain Tryz.prog 56 = true := by kernel_rfl
theorem P57 : plain Tryz.prog 57 = true := by kernel_rfl
theorem P58 : plain Tryz.prog 58 = true := by kernel_rfl
theorem P59 : plain Tryz.prog 59 = true := by kernel_rfl
theorem P60 : plain Tryz.prog 60 = true := by kernel_rfl
theorem P61 : plain Tryz.prog 61 = true := by kernel_rfl
theorem P62 : plain Tryz.prog 62 = true := by kernel_rfl
theorem P63 : plain Tryz.prog 63 = true := by kernel_rfl
theorem P64 : plain Tryz.prog 64 = true := by kernel_rfl
theorem P65 : plain Tryz.prog 65 = true := by kernel_rfl
theorem P66 : plain Tryz.prog 66 = true := by kernel_rfl
theorem P67 : plain Tryz.prog 67 = true := by kernel_rfl
theorem P68 : plain Tryz.prog 68 = true := by kernel_rfl
theorem P69 : plain Tryz.prog 69 = true := by kernel_rfl
theorem P70 : plain Tryz.prog 70 = true := by kernel_rfl
theorem P71 : plain Tryz.prog 71 = true := by kernel_rfl
theorem P74 : plain Tryz.prog 74 = true := by kernel_rfl
theorem P75 : plain Tryz.prog 75 = true := by kernel_rfl
theorem P76 : plain Tryz.prog 76 = true := by kernel_rfl
theorem P77 : plain Tryz.prog 77 = true := by kernel_rfl
theorem P78 : plain Tryz.prog 78 = true := by kernel_rfl
theorem P79 : plain Tryz.prog 79 = true := by kernel_rfl
theorem P80 : plain Tryz.prog 80 = true := by kernel_rfl
theorem P81 : plain Tryz.prog 81 = true := by kernel_rfl
theorem P82 : plain Tryz.prog 82 = true := by kernel_rfl
theorem P83 : plain Tryz.prog 83 = true := by kernel_rfl
theorem P84 : plain Tryz.prog 84 = true := by kernel_rfl
theorem P85 : plain Tryz.prog 85 = true := by kernel_rfl
theorem P86 : plain Tryz.prog 86 = true := by kernel_rfl
theorem P89 : plain Tryz.prog 89 = true := by kernel_rfl
theorem P9 : plain Tryz.prog 9 = true := by kernel_rfl
theorem P90 : plain Tryz.prog 90 = true := by kernel_rfl
theorem P91 : plain Tryz.prog 91 = true := by kernel_rfl
theorem P93 : plain Tryz.prog 93 = true := by kernel_rfl
theorem P94 : plain Tryz.prog 94 = true := by kernel_rfl
theorem P95 : plain Tryz.prog 95 = true := by kernel_rfl
theorem Q4 : Tryz.prog.underlying 4 = some .bool := by kernel_rfl
theorem T9 : isStr Tryz.prog 9 = true := by kernel_rfl
theorem U3 : (Tryz.prog.underlying 3).isSome = true := by kernel_rfl
theorem U5 : (Tryz.prog.underlying 5).isSome = true := by kernel_rfl
theorem U76 : (Tryz.prog.underlying 76).isSome = true := by kernel_rfl
theorem W3 : wordOf Tryz.prog 3 = some .i64 := by kernel_rfl
theorem W5 : wordOf Tryz.prog 5 = some .u8 := by kernel_rfl
theorem W76 : wordOf Tryz.prog 76 = some .u64 := by kernel_rfl
theorem Y38 : Eb Tryz.prog 38 := ⟨5, by kernel_rfl, by kernel_rfl⟩
theorem Z105 : zcells Tryz.prog 105 = some [.val (.pointer none), .val (.slice none 0 0)] := by kernel_rfl
theorem Z119 : zcells Tryz.prog 119 = some [.val (.int .i64 0), .val (.bool false)] := by kernel_rfl
theorem Z24 : zcells Tryz.prog 24 = some [.val (.string ⟨#[]⟩), .val (.slice none 0 0)] := by kernel_rfl
theorem Z27 : zcells Tryz.prog 27 = some [.val (.slice none 0 0)] := by kernel_rfl
theorem Z29 : zcells Tryz.prog 29 = some [.val (.string ⟨#[]⟩), .val (.string ⟨#[]⟩), .val (.bool false), .val (.slice none 0 0), .val (.slice none 0 0)] := by kernel_rfl
theorem Z33 : zcells Tryz.prog 33 = some [.val (.string ⟨#[]⟩), .val (.string ⟨#[]⟩), .val (.bool false), .val (.slice none 0 0), .val (.slice none 0 0), .val (.bool false)] := by kernel_rfl
theorem Z42 : zcells Tryz.prog 42 = some [.val (.string ⟨#[]⟩), .val (.slice none 0 0)] := by kernel_rfl
theorem Z49 : zcells Tryz.prog 49 = some [.val (.string ⟨#[]⟩), .val (.string ⟨#[]⟩)] := by kernel_rfl
theorem Z69 : zcells Tryz.prog 69 = some [.val (.slice none 0 0), .val (.bool false)] := by kernel_rfl
theorem Z72 : zcells Tryz.prog 72 = some [.val (.string ⟨#[]⟩), .val (.bool false)] := by kernel_rfl
theorem Z77 : zcells Tryz.prog 77 = some [.val (.string ⟨#[]⟩), .val (.string ⟨#[]⟩), .val (.string ⟨#[]⟩), .val (.string ⟨#[]⟩), .val (.string ⟨#[]⟩)] := by kernel_rfl
theorem Z9 : zcells Tryz.prog 9 = some [.val (.string ⟨#[]⟩)] := by kernel_rfl
theorem c5 : Tryz.prog.cellsOf 5 = 1 := by kernel_rfl
theorem f119_1 : Fe Tryz.prog 119 1 1 false 1 := ⟨4, by kernel_rfl, by kernel_rfl, by kernel_rfl⟩
theorem f72_1 : Fe Tryz.prog 72 1 1 false 1 := ⟨4, by kernel_rfl, by kernel_rfl, by kernel_rfl⟩
theorem g38 : elOf Tryz.prog 38 = some 5 ∧ szOf Tryz.prog 5 = some 1 ∧ bytOf Tryz.prog 5 = some 1 ∧ ∃ zs, zcells Tryz.prog 5 = some zs ∧ zs.length = 1 := ⟨by kernel_rfl, by kernel_rfl, by kernel_rfl, [.val (.int .u8 0)], by kernel_rfl, rfl⟩
theorem wA [Tab] (a : T_AttrT) : Wks (Enc.enc a) (Enc.enc (T_AttrT.w a)) := wkc (Wk.refl _) (wkc (Wk.tst _) wkn0)
end Go.Ka.Tryz
namespace Go.Ka
open Go.Proofs
open Enc (enc)
variable [Tab]
set_option maxRecDepth 100000
theorem rd_T_Attr_42 : Rd Tryz.prog 42 T_Attr enc := by
  refine rd_struct Tryz.underlying42 (tot := 2) (by kernel_rfl) (rdF_cons rfl (s := 1) (by kernel_rfl) rfl (rd_str Tryz.underlying9) (rdF_cons rfl (s := 1) (by kernel_rfl) rfl (rd_list Tryz.underlying27 (by kernel_rfl) (Nat.zero_lt_succ _) (rd_str Tryz.underlying9)) rdF_nil)) (fun (x : Str × (List Str) × Unit) => ⟨x.1, x.2.1⟩) ?_
  exact fun _ => rfl
theorem rd_T_Entry_24 : Rd Tryz.prog 24 T_Entry enc := by
  refine rd_struct Tryz.underlying24 (tot := 2) (by kernel_rfl) (rdF_cons rfl (s := 1) (by kernel_rfl) rfl (rd_str Tryz.underlying9) (rdF_cons rfl (s := 1) (by kernel_rfl) rfl (rd_list Tryz.underlying22 (by kernel_rfl) (Nat.zero_lt_succ _) rd_T_Attr_42) rdF_nil)) (fun (x : Str × (List T_Attr) × Unit) => ⟨x.1, x.2.1⟩) ?_
  exact fun _ => rfl
end Go.Ka
namespace Go.Proofs
open Go.Shelf
def Tryz.lays160_ren : Go.Shelf.Ren := ⟨fun | 160 => 79 | 232 => 97 | 231 => 96 | 227 => 98 | 234 => 100 | 233 => 99 | 236 => 102 | 235 => 101 | 228 => 125 | 271 => 128 | 151 => 127 | 197 => 126 | 120 => 144 | 152 => 143 | 260 => 142 | 137 => 95 | 119 => 153 | 224 => 123 | 225 => 122 | 217 => 121 | 266 => 140 | n => n, fun | 9 => 9 | 4 => 4 | 3 => 3 | 5 => 5 | 117 => 132 | 116 => 131 | 0 => 0 | 124 => 135 | 21 => 21 | 105 => 160 | 46 => 112 | 119 => 96 | 139 => 189 | 138 => 188 | n => n, fun | 3 => 3 | 4 => 4 | n => n⟩
theorem Tryz.lays160 : Go.Proofs.Lays.n160 Tryz.prog Tryz.lays160_ren := {
  mixed := by kernel_rfl
  f119 := Tryz.func153.trans (congrArg some (by kernel_rfl))
  f120 := Tryz.func144.trans (congrArg some (by kernel_rfl))
  f137 := Tryz.func95.trans (congrArg some (by kernel_rfl))
  f151 := Tryz.func127.trans (congrArg some (by kernel_rfl))
  f152 := Tryz.func143.trans (congrArg some (by kernel_rfl))
  f160 := Tryz.func79.trans (congrArg some (by kernel_rfl))
  f197 := Tryz.func126.trans (congrArg some (by kernel_rfl))
  f217 := Tryz.func121.trans (congrArg some (by kernel_rfl))
  f224 := Tryz.func123.trans (congrArg some (by kernel_rfl))
  f225 := Tryz.func122.trans (congrArg some (by kernel_rfl))
  f227 := Tryz.func98.trans (congrArg some (by kernel_rfl))
  f228 := Tryz.func125.trans (congrArg some (by kernel_rfl))
  f231 := Tryz.func96.trans (congrArg some (by kernel_rfl))
  f232 := Tryz.func97.trans (congrArg some (by kernel_rfl))
  f233 := Tryz.func99.trans (congrArg some (by kernel_rfl))
  f234 := Tryz.func100.trans (congrArg some (by kernel_rfl))
  f235 := Tryz.func101.trans (congrArg some (by kernel_rfl))
  f236 := Tryz.func102.trans (congrArg some (by kernel_rfl))
  f260 := Tryz.func142.trans (congrArg some (by kernel_rfl))
  f266 := Tryz.func140.trans (congrArg some (by kernel_rfl))
  f271 := Tryz.func128.trans (congrArg some (by kernel_rfl))
  t0 := Tryz.underlying0
  a0 := Tryz.isAgg0
  z0 := Tryz.sizeOf0
  v0 := Tryz.zeroValue0
  t3 := Tryz.underlying3
  a3 := Tryz.isAgg3
  z3 := Tryz.sizeOf3
  v3 := Tryz.zeroValue3
  t4 := Tryz.underlying4
  a4 := Tryz.isAgg4
  z4 := Tryz.sizeOf4
  v4 := Tryz.zeroValue4
  t5 := Tryz.underlying5
  a5 := Tryz.isAgg5
  z5 := Tryz.sizeOf5
  v5 := Tryz.zeroValue5
  t9 := Tryz.underlying9
  a9 := Tryz.isAgg9
  z9 := Tryz.sizeOf9
  v9 := Tryz.zeroValue9
  t21 := Tryz.underlying21
  a21 := Tryz.isAgg21
  z21 := Tryz.sizeOf21
  v21 := Tryz.zeroValue21
  t46 := Tryz.underlying112
  a46 := Tryz.isAgg112
  z46 := Tryz.sizeOf112
  v46 := Tryz.zeroValue112
  t105 := Tryz.underlying160
  a105 := Tryz.isAgg160
  z105 := Tryz.sizeOf160
  v105 := Tryz.zeroValue160
  t116 := Tryz.underlying131
  a116 := Tryz.isAgg131
  z116 := Tryz.sizeOf131
  t117 := Tryz.underlying132
  a117 := Tryz.isAgg132
  z117 := Tryz.sizeOf132
  v117 := Tryz.zeroValue132
  t119 := Tryz.underlying96
  a119 := Tryz.isAgg96
  z119 := Tryz.sizeOf96
  t124 := Tryz.underlying135
  a124 := Tryz.isAgg135
  z124 := Tryz.sizeOf135
  v124 := Tryz.zeroValue135
  t138 := Tryz.underlying188
  a138 := Tryz.isAgg188
  z138 := Tryz.sizeOf188
  v138 := Tryz.zeroValue188
  t139 := Tryz.underlying189
  a139 := Tryz.isAgg189
  z139 := Tryz.sizeOf189
  v139 := Tryz.zeroValue189
  g3 := by kernel_rfl
  g4 := by kernel_rfl }
open Go.RowKit in
/-- strings.Trim: "Trim returns a slice of the string s with all leading and trailing Unicode code points contained in cutset removed.": AT A cutset OF ONE ASCII BYTE. THE WORLD BEHIND IT: as it was, or (where s is not empty) with ONE DRAW MORE off the tape: the statement 'return trimLeftByte(trimRightByte(s, c), c)' draws its order of evaluation. (LAID: no walk: one application.) -/
theorem Tryz.strings_Trim_one (s : ByteArray) (c : UInt8) (hc : c.toNat < 128) (w : World) (hs : s.size ≤ 9223372036854775807) :
    Calls Tryz.prog 79 #[.string s, .string ⟨#[c]⟩] w fun e w' => e = .returned (.string ⟨(Lib.trimB s.data.toList c).toArray⟩) ∧ (w' = w ∨ w' = w.drew) := Any.strings_Trim_one Tryz.lays160 s c hc w hs
def Tryz.lays137_ren : Go.Shelf.Ren := ⟨fun | 137 => 95 | 217 => 121 | 266 => 140 | n => n, fun | 9 => 9 | 5 => 5 | 3 => 3 | n => n, fun | n => n⟩
theorem Tryz.lays137 : Go.Proofs.Lays.n137 Tryz.prog Tryz.lays137_ren := {
  mixed := by kernel_rfl
  f137 := Tryz.func95.trans (congrArg some (by kernel_rfl))
  f217 := Tryz.func121.trans (congrArg some (by kernel_rfl))
  f266 := Tryz.func140.trans (congrArg some (by kernel_rfl))
  t3 := Tryz.underlying3
  a3 := Tryz.isAgg3
  z3 := Tryz.sizeOf3
  v3 := Tryz.zeroValue3
  t5 := Tryz.underlying5
  a5 := Tryz.isAgg5
  z5 := Tryz.sizeOf5
  v5 := Tryz.zeroValue5
  t9 := Tryz.underlying9
  a9 := Tryz.isAgg9
  z9 := Tryz.sizeOf9
  v9 := Tryz.zeroValue9 }
open Go.RowKit in
/-- strings.IndexByte: "IndexByte returns the index of the first instance of c in s, or -1 if c is not present in s.": IT RETURNS 'Lib.indexByte s c'; the world is as it was. (LAID: no walk: one application.) -/
theorem Tryz.strings_IndexByte (s : ByteArray) (c : Int) (w : World) :
    Calls Tryz.prog 95 #[.string s, .int .u8 c] w fun e w' => e = .returned (.int .i64 (Lib.indexByte s.data.toList c.toNat.toUInt8)) ∧ w' = w := Any.strings_IndexByte Tryz.lays137 s c w
def Tryz.laysM171_ren : Go.Shelf.Ren := ⟨fun | 171 => 105 | 243 => 132 | 246 => 150 | 283 => 157 | 284 => 158 | 285 => 159 | 286 => 160 | 129 => 117 | 317 => 163 | 318 => 164 | 319 => 165 | 320 => 166 | 337 => 167 | 338 => 168 | n => n, fun | 3 => 3 | 9 => 9 | 2 => 2 | 4 => 4 | 171 => 195 | 0 => 0 | 53 => 76 | 37 => 38 | 5 => 5 | 173 => 197 | 212 => 203 | 51 => 124 | 20 => 20 | 213 => 204 | 46 => 112 | 232 => 206 | 233 => 207 | n => n, fun | 17 => 7 | 18 => 8 | 19 => 9 | n => n⟩
theorem Tryz.laysM171 : Go.Proofs.LaysM.n171 Tryz.prog Tryz.laysM171_ren := {
  mixed := by kernel_rfl
  f129 := Tryz.func117.trans (congrArg some (by kernel_rfl))
  f171 := Tryz.func105.trans (congrArg some (by kernel_rfl))
  f243 := Tryz.func132.trans (congrArg some (by kernel_rfl))
  f246 := Tryz.func150.trans (congrArg some (by kernel_rfl))
  f283 := Tryz.func157.trans (congrArg some (by kernel_rfl))
  f284 := Tryz.func158.trans (congrArg some (by kernel_rfl))
  f285 := Tryz.func159.trans (congrArg some (by kernel_rfl))
  f286 := Tryz.func160.trans (congrArg some (by kernel_rfl))
  f317 := Tryz.func163.trans (congrArg some (by kernel_rfl))
  f318 := Tryz.func164.trans (congrArg some (by kernel_rfl))
  f319 := Tryz.func165.trans (congrArg some (by kernel_rfl))
  f320 := Tryz.func166.trans (congrArg some (by kernel_rfl))
  f337 := Tryz.func167.trans (congrArg some (by kernel_rfl))
  f338 := Tryz.func168.trans (congrArg some (by kernel_rfl))
  t0 := Tryz.underlying0
  a0 := Tryz.isAgg0
  z0 := Tryz.sizeOf0
  v0 := Tryz.zeroValue0
  t2 := Tryz.underlying2
  a2 := Tryz.isAgg2
  z2 := Tryz.sizeOf2
  v2 := Tryz.zeroValue2
  t3 := Tryz.underlying3
  a3 := Tryz.isAgg3
  z3 := Tryz.sizeOf3
  v3 := Tryz.zeroValue3
  t4 := Tryz.underlying4
  a4 := Tryz.isAgg4
  z4 := Tryz.sizeOf4
  v4 := Tryz.zeroValue4
  t5 := Tryz.underlying5
  a5 := Tryz.isAgg5
  z5 := Tryz.sizeOf5
  v5 := Tryz.zeroValue5
  t9 := Tryz.underlying9
  a9 := Tryz.isAgg9
  z9 := Tryz.sizeOf9
  v9 := Tryz.zeroValue9
  t20 := Tryz.underlying20
  a20 := Tryz.isAgg20
  z20 := Tryz.sizeOf20
  v20 := Tryz.zeroValue20
  t37 := Tryz.underlying38
  a37 := Tryz.isAgg38
  z37 := Tryz.sizeOf38
  v37 := Tryz.zeroValue38
  t46 := Tryz.underlying112
  a46 := Tryz.isAgg112
  z46 := Tryz.sizeOf112
  v46 := Tryz.zeroValue112
  t51 := Tryz.underlying124
  a51 := Tryz.isAgg124
  z51 := Tryz.sizeOf124
  v51 := Tryz.zeroValue124
  t53 := Tryz.underlying76
  a53 := Tryz.isAgg76
  z53 := Tryz.sizeOf76
  v53 := Tryz.zeroValue76
  t171 := Tryz.underlying195
  a171 := Tryz.isAgg195
  z171 := Tryz.sizeOf195
  v171 := Tryz.zeroValue195
  t173 := Tryz.underlying197
  a173 := Tryz.isAgg197
  z173 := Tryz.sizeOf197
  v173 := Tryz.zeroValue197
  t212 := Tryz.underlying203
  a212 := Tryz.isAgg203
  z212 := Tryz.sizeOf203
  v212 := Tryz.zeroValue203
  t213 := Tryz.underlying204
  a213 := Tryz.isAgg204
  z213 := Tryz.sizeOf204
  t232 := Tryz.underlying206
  a232 := Tryz.isAgg206
  z232 := Tryz.sizeOf206
  v232 := Tryz.zeroValue206
  t233 := Tryz.underlying207
  a233 := Tryz.isAgg207
  z233 := Tryz.sizeOf207
  v233 := Tryz.zeroValue207
  g17 := by kernel_rfl
  g18 := by kernel_rfl
  g19 := by kernel_rfl
  i0 := by kernel_rfl
  i2 := by kernel_rfl
  i3 := by kernel_rfl
  i4 := by kernel_rfl
  i5 := by kernel_rfl
  i9 := by kernel_rfl
  i20 := by kernel_rfl
  i37 := by kernel_rfl
  i46 := by kernel_rfl
  i51 := by kernel_rfl
  i53 := by kernel_rfl
  i171 := by kernel_rfl
  i173 := by kernel_rfl
  i212 := by kernel_rfl
  i232 := by kernel_rfl
  i233 := by kernel_rfl
  m17 := by kernel_rfl
  m18 := by kernel_rfl
  m19 := by kernel_rfl }
open Go.RowKit Go.Sort Go.Lib in
/-- strconv.Itoa: "Itoa is equivalent to FormatInt(int64(i), 10).": i's DECIMAL NUMERAL ('Lib.itoa': a '-' where i is negative, then the digits), FOR EVERY int. The world behind the call: the world before it, new blocks behind the heap (the library's 'var a [24]byte'), draws. (LAID: no walk: one application.) -/
theorem Tryz.strconv_Itoa (n : Int) (h0 : -9223372036854775808 ≤ n) (h1 : n ≤ 9223372036854775807) (w : World) (htab : Lib.TabIs Tryz.prog w "internal/strconv.uint64pow10" .u64 Lib.pow10Tab) :
    Calls Tryz.prog 105 #[.int .i64 n] w fun e w' => e = .returned (.string ⟨(Lib.itoa n).toArray⟩) ∧ ∃ k os, w' = grow (w.drewN k) os := Any.strconv_Itoa Tryz.laysM171 n h0 h1 w htab
def Tryz.laysC172_ren : Go.Shelf.Ren := ⟨fun | 172 => 104 | 244 => 130 | 245 => 131 | 247 => 145 | 279 => 146 | 280 => 147 | 281 => 148 | 282 => 149 | 287 => 154 | 316 => 155 | 171 => 105 | 205 => 156 | 321 => 161 | 322 => 162 | 243 => 132 | 246 => 150 | 283 => 157 | 284 => 158 | 285 => 159 | 286 => 160 | 129 => 117 | 317 => 163 | 318 => 164 | 319 => 165 | 320 => 166 | 337 => 167 | 338 => 168 | n => n, fun | 9 => 9 | 3 => 3 | 75 => 107 | 76 => 109 | 4 => 4 | 5 => 5 | 167 => 177 | 37 => 38 | 0 => 0 | 85 => 178 | 2 => 2 | 168 => 180 | 53 => 76 | 175 => 190 | 46 => 112 | 210 => 193 | 127 => 136 | 145 => 201 | 143 => 199 | 21 => 21 | 171 => 195 | 173 => 197 | 212 => 203 | 51 => 124 | 20 => 20 | 213 => 204 | 232 => 206 | 233 => 207 | 80 => 113 | n => n, fun | 15 => 5 | 16 => 6 | 17 => 7 | 18 => 8 | 19 => 9 | n => n⟩
theorem Tryz.laysC172 : Go.Proofs.LaysC.n172 Tryz.prog Tryz.laysC172_ren := {
  mixed := by kernel_rfl
  f129 := Tryz.func117.trans (congrArg some (by kernel_rfl))
  f171 := Tryz.func105.trans (congrArg some (by kernel_rfl))
  f172 := Tryz.func104.trans (congrArg some (by kernel_rfl))
  f205 := Tryz.func156.trans (congrArg some (by kernel_rfl))
  f243 := Tryz.func132.trans (congrArg some (by kernel_rfl))
  f244 := Tryz.func130.trans (congrArg some (by kernel_rfl))
  f245 := Tryz.func131.trans (congrArg some (by kernel_rfl))
  f246 := Tryz.func150.trans (congrArg some (by kernel_rfl))
  f247 := Tryz.func145.trans (congrArg some (by kernel_rfl))
  f279 := Tryz.func146.trans (congrArg some (by kernel_rfl))
  f280 := Tryz.func147.trans (congrArg some (by kernel_rfl))
  f281 := Tryz.func148.trans (congrArg some (by kernel_rfl))
  f282 := Tryz.func149.trans (congrArg some (by kernel_rfl))
  f283 := Tryz.func157.trans (congrArg some (by kernel_rfl))
  f284 := Tryz.func158.trans (congrArg some (by kernel_rfl))
  f285 := Tryz.func159.trans (congrArg some (by kernel_rfl))
  f286 := Tryz.func160.trans (congrArg some (by kernel_rfl))
  f287 := Tryz.func154.trans (congrArg some (by kernel_rfl))
  f316 := Tryz.func155.trans (congrArg some (by kernel_rfl))
  f317 := Tryz.func163.trans (congrArg some (by kernel_rfl))
  f318 := Tryz.func164.trans (congrArg some (by kernel_rfl))
  f319 := Tryz.func165.trans (congrArg some (by kernel_rfl))
  f320 := Tryz.func166.trans (congrArg some (by kernel_rfl))
  f321 := Tryz.func161.trans (congrArg some (by kernel_rfl))
  f322 := Tryz.func162.trans (congrArg some (by kernel_rfl))
  f337 := Tryz.func167.trans (congrArg some (by kernel_rfl))
  f338 := Tryz.func168.trans (congrArg some (by kernel_rfl))
  t0 := Tryz.underlying0
  a0 := Tryz.isAgg0
  z0 := Tryz.sizeOf0
  v0 := Tryz.zeroValue0
  t2 := Tryz.underlying2
  a2 := Tryz.isAgg2
  z2 := Tryz.sizeOf2
  v2 := Tryz.zeroValue2
  t3 := Tryz.underlying3
  a3 := Tryz.isAgg3
  z3 := Tryz.sizeOf3
  v3 := Tryz.zeroValue3
  t4 := Tryz.underlying4
  a4 := Tryz.isAgg4
  z4 := Tryz.sizeOf4
  v4 := Tryz.zeroValue4
  t5 := Tryz.underlying5
  a5 := Tryz.isAgg5
  z5 := Tryz.sizeOf5
  v5 := Tryz.zeroValue5
  t9 := Tryz.underlying9
  a9 := Tryz.isAgg9
  z9 := Tryz.sizeOf9
  v9 := Tryz.zeroValue9
  t20 := Tryz.underlying20
  a20 := Tryz.isAgg20
  z20 := Tryz.sizeOf20
  v20 := Tryz.zeroValue20
  t21 := Tryz.underlying21
  a21 := Tryz.isAgg21
  z21 := Tryz.sizeOf21
  v21 := Tryz.zeroValue21
  t37 := Tryz.underlying38
  a37 := Tryz.isAgg38
  z37 := Tryz.sizeOf38
  v37 := Tryz.zeroValue38
  t46 := Tryz.underlying112
  a46 := Tryz.isAgg112
  z46 := Tryz.sizeOf112
  v46 := Tryz.zeroValue112
  t51 := Tryz.underlying124
  a51 := Tryz.isAgg124
  z51 := Tryz.sizeOf124
  v51 := Tryz.zeroValue124
  t53 := Tryz.underlying76
  a53 := Tryz.isAgg76
  z53 := Tryz.sizeOf76
  v53 := Tryz.zeroValue76
  t75 := Tryz.underlying107
  a75 := Tryz.isAgg107
  z75 := Tryz.sizeOf107
  v75 := Tryz.zeroValue107
  t76 := Tryz.underlying109
  a76 := Tryz.isAgg109
  z76 := Tryz.sizeOf109
  v76 := Tryz.zeroValue109
  t85 := Tryz.underlying178
  a85 := Tryz.isAgg178
  z85 := Tryz.sizeOf178
  v85 := Tryz.zeroValue178
  t127 := Tryz.underlying136
  a127 := Tryz.isAgg136
  z127 := Tryz.sizeOf136
  v127 := Tryz.zeroValue136
  t143 := Tryz.underlying199
  a143 := Tryz.isAgg199
  z143 := Tryz.sizeOf199
  v143 := Tryz.zeroValue199
  t145 := Tryz.underlying201
  a145 := Tryz.isAgg201
  z145 := Tryz.sizeOf201
  v145 := Tryz.zeroValue201
  t167 := Tryz.underlying177
  a167 := Tryz.isAgg177
  z167 := Tryz.sizeOf177
  v167 := Tryz.zeroValue177
  t168 := Tryz.underlying180
  a168 := Tryz.isAgg180
  z168 := Tryz.sizeOf180
  v168 := Tryz.zeroValue180
  t171 := Tryz.underlying195
  a171 := Tryz.isAgg195
  z171 := Tryz.sizeOf195
  v171 := Tryz.zeroValue195
  t173 := Tryz.underlying197
  a173 := Tryz.isAgg197
  z173 := Tryz.sizeOf197
  v173 := Tryz.zeroValue197
  t175 := Tryz.underlying190
  a175 := Tryz.isAgg190
  z175 := Tryz.sizeOf190
  v175 := Tryz.zeroValue190
  t210 := Tryz.underlying193
  a210 := Tryz.isAgg193
  z210 := Tryz.sizeOf193
  v210 := Tryz.zeroValue193
  t212 := Tryz.underlying203
  a212 := Tryz.isAgg203
  z212 := Tryz.sizeOf203
  v212 := Tryz.zeroValue203
  t213 := Tryz.underlying204
  a213 := Tryz.isAgg204
  z213 := Tryz.sizeOf204
  t232 := Tryz.underlying206
  a232 := Tryz.isAgg206
  z232 := Tryz.sizeOf206
  v232 := Tryz.zeroValue206
  t233 := Tryz.underlying207
  a233 := Tryz.isAgg207
  z233 := Tryz.sizeOf207
  v233 := Tryz.zeroValue207
  g15 := by kernel_rfl
  g16 := by kernel_rfl
  g17 := by kernel_rfl
  g18 := by kernel_rfl
  g19 := by kernel_rfl
  t80 := Tryz.underlying113
  a80 := Tryz.isAgg113
  z80 := Tryz.sizeOf113
  v80 := Tryz.zeroValue113
  i0 := by kernel_rfl
  i2 := by kernel_rfl
  i3 := by kernel_rfl
  i4 := by kernel_rfl
  i5 := by kernel_rfl
  i9 := by kernel_rfl
  i20 := by kernel_rfl
  i21 := by kernel_rfl
  i37 := by kernel_rfl
  i46 := by kernel_rfl
  i51 := by kernel_rfl
  i53 := by kernel_rfl
  i75 := by kernel_rfl
  i76 := by kernel_rfl
  i80 := by kernel_rfl
  i85 := by kernel_rfl
  i127 := by kernel_rfl
  i143 := by kernel_rfl
  i145 := by kernel_rfl
  i167 := by kernel_rfl
  i168 := by kernel_rfl
  i171 := by kernel_rfl
  i173 := by kernel_rfl
  i175 := by kernel_rfl
  i210 := by kernel_rfl
  i212 := by kernel_rfl
  i232 := by kernel_rfl
  i233 := by kernel_rfl
  m15 := by kernel_rfl
  m16 := by kernel_rfl
  m17 := by kernel_rfl
  m18 := by kernel_rfl
  m19 := by kernel_rfl
  c0 := by kernel_rfl
  c2 := by kernel_rfl
  c3 := by kernel_rfl
  c4 := by kernel_rfl
  c5 := by kernel_rfl
  c9 := by kernel_rfl
  c20 := by kernel_rfl
  c21 := by kernel_rfl
  c37 := by kernel_rfl
  c46 := by kernel_rfl
  c51 := by kernel_rfl
  c53 := by kernel_rfl
  c75 := by kernel_rfl
  c76 := by kernel_rfl
  c80 := by kernel_rfl
  c85 := by kernel_rfl
  c127 := by kernel_rfl
  c143 := by kernel_rfl
  c145 := by kernel_rfl
  c167 := by kernel_rfl
  c168 := by kernel_rfl
  c171 := by kernel_rfl
  c173 := by kernel_rfl
  c175 := by kernel_rfl
  c210 := by kernel_rfl
  c212 := by kernel_rfl
  c213 := by kernel_rfl
  c232 := by kernel_rfl
  c233 := by kernel_rfl }
open Go.RowKit in
/-- strconv.Atoi, AT EVERY STRING THAT SPELLS AN int ('Lib.atoiAll .. = .ok v'; of whatever length: leading zeros count): v, AND NO ERROR. The world: as it was, or with the one new row that '[]byte(..)' lays. (LAID: no walk: one application.) -/
theorem Tryz.strconv_Atoi_ok (s : ByteArray) (hmax : s.size ≤ 9223372036854775806) (v : Int) (h : Lib.atoiAll s.data.toList = .ok v) (w : World) :
    Calls Tryz.prog 104 #[.string s] w fun e w' => e = .returned (.tuple #[.int .i64 v, .nilIface]) ∧ (w' = w ∨ ∃ t, w' = Lib.bytesWorld w 5 t) := Any.strconv_Atoi_ok Tryz.laysC172 s hmax v h w
open Go.RowKit in
/-- strconv.Atoi, AT EVERY STRING THAT IS NO DECIMAL NUMERAL 0, AND AN ERROR THAT IS NOT nil: a *NumError in a new block N: {Func: "Atoi", Num: s's bytes, Err: what the variable ErrSyntax holds}. Of what was there nothing has turned. (LAID: no walk: one application.) -/
theorem Tryz.strconv_Atoi_none (s : ByteArray) (hlim : s.size ≤ 281474976710656) (h : Lib.atoiAll s.data.toList = Lib.atoiAll []) (ev : Value) (w : World) (hv : w.cell? ⟨5, 0, none⟩ = some ev) (hev : ev = .nilIface ∨ ∃ te pe, ev = .iface te pe) :
    Calls Tryz.prog 104 #[.string s] w fun e w' => ∃ N, e = .returned (.tuple #[.int .i64 (0), .iface 180 (.pointer (some ⟨N, 0, none⟩))]) ∧ w.heap.size ≤ N ∧ w'.heap[N]? = some (.cells #[.string ⟨#[65, 116, 111, 105]⟩, .string s, ev] 193 (0, 0)) ∧ Below w.heap.size w w' := Any.strconv_Atoi_syntax Tryz.laysC172 s hlim h ev w hv hev
open Go.RowKit in
/-- strconv.Atoi, AT EVERY NUMERAL THAT NO int HOLDS ('.range'): THE GREATEST OR THE LEAST int, BY THE SIGN ('Lib.atoiSat'), AND AN ERROR THAT IS NOT nil: a *NumError in a new block N: {Func: "Atoi", Num: s's bytes, Err: what the variable ErrRange holds}. Of what was there nothing has turned. (LAID: no walk: one application.) -/
theorem Tryz.strconv_Atoi_range (s : ByteArray) (hlim : s.size ≤ 281474976710656) (h : Lib.atoiAll s.data.toList = .range) (ev : Value) (w : World) (hv : w.cell? ⟨6, 0, none⟩ = some ev) (hev : ev = .nilIface ∨ ∃ te pe, ev = .iface te pe) :
    Calls Tryz.prog 104 #[.string s] w fun e w' => ∃ N, e = .returned (.tuple #[.int .i64 (Lib.atoiSat s.data.toList), .iface 180 (.pointer (some ⟨N, 0, none⟩))]) ∧ w.heap.size ≤ N ∧ w'.heap[N]? = some (.cells #[.string ⟨#[65, 116, 111, 105]⟩, .string s, ev] 193 (0, 0)) ∧ Below w.heap.size w w' := Any.strconv_Atoi_range Tryz.laysC172 s hlim h ev w hv hev
def Tryz.lays217_ren : Go.Shelf.Ren := ⟨fun | 217 => 121 | 266 => 140 | n => n, fun | 9 => 9 | 5 => 5 | 3 => 3 | n => n, fun | n => n⟩
theorem Tryz.lays217 : Go.Proofs.Lays.n217 Tryz.prog Tryz.lays217_ren := {
  mixed := by kernel_rfl
  f217 := Tryz.func121.trans (congrArg some (by kernel_rfl))
  f266 := Tryz.func140.trans (congrArg some (by kernel_rfl))
  t3 := Tryz.underlying3
  a3 := Tryz.isAgg3
  z3 := Tryz.sizeOf3
  v3 := Tryz.zeroValue3
  t5 := Tryz.underlying5
  a5 := Tryz.isAgg5
  z5 := Tryz.sizeOf5
  v5 := Tryz.zeroValue5
  t9 := Tryz.underlying9
  a9 := Tryz.isAgg9
  z9 := Tryz.sizeOf9
  v9 := Tryz.zeroValue9 }
open Go.RowKit Go.Lib in
/-- internal/stringslite.IndexByte (what strings.IndexByte calls): IT RETURNS 'Lib.indexByte s c'; the world is as it was. (LAID: no walk: one application.) -/
theorem Tryz.stringslite_IndexByte (s : ByteArray) (c : Int) (w : World) :
    Calls Tryz.prog 121 #[.string s, .int .u8 c] w fun e w' => e = .returned (.int .i64 (Lib.indexByte s.data.toList c.toNat.toUInt8)) ∧ w' = w := Any.stringslite_IndexByte Tryz.lays217 s c w
def Tryz.lays190_ren : Go.Shelf.Ren := ⟨fun | 190 => 52 | 125 => 88 | 258 => 87 | 128 => 116 | 129 => 117 | 302 => 107 | 303 => 108 | 304 => 109 | 305 => 110 | 306 => 111 | 307 => 112 | 308 => 113 | 309 => 114 | 310 => 115 | 333 => 134 | 329 => 135 | 330 => 136 | 334 => 137 | 335 => 138 | 336 => 139 | 344 => 152 | n => n, fun | 31 => 27 | 9 => 9 | 3 => 3 | 46 => 112 | 0 => 0 | 51 => 124 | 53 => 76 | 4 => 4 | 183 => 139 | 182 => 138 | 131 => 144 | 5 => 5 | 218 => 166 | 222 => 170 | 228 => 184 | 229 => 185 | n => n, fun | n => n⟩
theorem Tryz.lays190 : Go.Proofs.Lays.n190 Tryz.prog Tryz.lays190_ren := {
  mixed := by kernel_rfl
  f125 := Tryz.func88.trans (congrArg some (by kernel_rfl))
  f128 := Tryz.func116.trans (congrArg some (by kernel_rfl))
  f129 := Tryz.func117.trans (congrArg some (by kernel_rfl))
  f190 := Tryz.func52.trans (congrArg some (by kernel_rfl))
  f258 := Tryz.func87.trans (congrArg some (by kernel_rfl))
  f302 := Tryz.func107.trans (congrArg some (by kernel_rfl))
  f303 := Tryz.func108.trans (congrArg some (by kernel_rfl))
  f304 := Tryz.func109.trans (congrArg some (by kernel_rfl))
  f305 := Tryz.func110.trans (congrArg some (by kernel_rfl))
  f306 := Tryz.func111.trans (congrArg some (by kernel_rfl))
  f307 := Tryz.func112.trans (congrArg some (by kernel_rfl))
  f308 := Tryz.func113.trans (congrArg some (by kernel_rfl))
  f309 := Tryz.func114.trans (congrArg some (by kernel_rfl))
  f310 := Tryz.func115.trans (congrArg some (by kernel_rfl))
  f329 := Tryz.func135.trans (congrArg some (by kernel_rfl))
  f330 := Tryz.func136.trans (congrArg some (by kernel_rfl))
  f333 := Tryz.func134.trans (congrArg some (by kernel_rfl))
  f334 := Tryz.func137.trans (congrArg some (by kernel_rfl))
  f335 := Tryz.func138.trans (congrArg some (by kernel_rfl))
  f336 := Tryz.func139.trans (congrArg some (by kernel_rfl))
  f344 := Tryz.func152.trans (congrArg some (by kernel_rfl))
  t0 := Tryz.underlying0
  a0 := Tryz.isAgg0
  z0 := Tryz.sizeOf0
  v0 := Tryz.zeroValue0
  t3 := Tryz.underlying3
  a3 := Tryz.isAgg3
  z3 := Tryz.sizeOf3
  v3 := Tryz.zeroValue3
  t4 := Tryz.underlying4
  a4 := Tryz.isAgg4
  z4 := Tryz.sizeOf4
  v4 := Tryz.zeroValue4
  t5 := Tryz.underlying5
  a5 := Tryz.isAgg5
  z5 := Tryz.sizeOf5
  v5 := Tryz.zeroValue5
  t9 := Tryz.underlying9
  a9 := Tryz.isAgg9
  z9 := Tryz.sizeOf9
  v9 := Tryz.zeroValue9
  t31 := Tryz.underlying27
  a31 := Tryz.isAgg27
  z31 := Tryz.sizeOf27
  v31 := Tryz.zeroValue27
  t46 := Tryz.underlying112
  a46 := Tryz.isAgg112
  z46 := Tryz.sizeOf112
  v46 := Tryz.zeroValue112
  t51 := Tryz.underlying124
  a51 := Tryz.isAgg124
  z51 := Tryz.sizeOf124
  v51 := Tryz.zeroValue124
  t53 := Tryz.underlying76
  a53 := Tryz.isAgg76
  z53 := Tryz.sizeOf76
  v53 := Tryz.zeroValue76
  t131 := Tryz.underlying144
  a131 := Tryz.isAgg144
  z131 := Tryz.sizeOf144
  v131 := Tryz.zeroValue144
  t182 := Tryz.underlying138
  a182 := Tryz.isAgg138
  z182 := Tryz.sizeOf138
  v182 := Tryz.zeroValue138
  t183 := Tryz.underlying139
  a183 := Tryz.isAgg139
  z183 := Tryz.sizeOf139
  v183 := Tryz.zeroValue139
  t218 := Tryz.underlying166
  a218 := Tryz.isAgg166
  z218 := Tryz.sizeOf166
  v218 := Tryz.zeroValue166
  t222 := Tryz.underlying170
  a222 := Tryz.isAgg170
  z222 := Tryz.sizeOf170
  v222 := Tryz.zeroValue170
  t228 := Tryz.underlying184
  a228 := Tryz.isAgg184
  z228 := Tryz.sizeOf184
  v228 := Tryz.zeroValue184
  t229 := Tryz.underlying185
  a229 := Tryz.isAgg185
  z229 := Tryz.sizeOf185
  v229 := Tryz.zeroValue185 }
open Go.Sort Go.RowKit in
theorem Tryz.slices_Sort_string (blk off cap : Nat) (ss : List (List UInt8)) (w : World) (hH : Holds encStr w blk off ss.toArray) (hblk : blk < w.heap.size) (hsz : ss.length < 4611686018427387904) :
    Calls Tryz.prog 52 #[.slice (some ⟨blk, off, none⟩) ss.length cap] w fun e w' =>
      e = .returned (.tuple #[]) ∧ ∃ n os, w' = grow (putRow encStr (Sort.ahead w n) blk off (ss.mergeSort fun x y => decide (x ≤ y)).toArray) os := Any.slices_Sort_string Tryz.lays190 blk off cap ss w hH hblk hsz
def Tryz.lays101_ren : Go.Shelf.Ren := ⟨fun | 101 => 106 | 208 => 133 | 206 => 151 | n => n, fun | 9 => 9 | 4 => 4 | 3 => 3 | n => n, fun | n => n⟩
theorem Tryz.lays101 : Go.Proofs.Lays.n101 Tryz.prog Tryz.lays101_ren := {
  mixed := by kernel_rfl
  f101 := Tryz.func106.trans (congrArg some (by kernel_rfl))
  f206 := Tryz.func151.trans (congrArg some (by kernel_rfl))
  f208 := Tryz.func133.trans (congrArg some (by kernel_rfl))
  t3 := Tryz.underlying3
  a3 := Tryz.isAgg3
  z3 := Tryz.sizeOf3
  v3 := Tryz.zeroValue3
  t4 := Tryz.underlying4
  a4 := Tryz.isAgg4
  z4 := Tryz.sizeOf4
  v4 := Tryz.zeroValue4
  t9 := Tryz.underlying9
  a9 := Tryz.isAgg9
  z9 := Tryz.sizeOf9
  v9 := Tryz.zeroValue9 }
open Go.RowKit Go.Lib in
/-- strings.TrimPrefix: "TrimPrefix returns s without the provided leading prefix string. If s doesn't start with prefix, s is returned unchanged.": IT RETURNS 'Lib.trimPrefix s prefix'; the world is as it was. (LAID: no walk: one application.) -/
theorem Tryz.strings_TrimPrefix (s p : ByteArray) (w : World) :
    Calls Tryz.prog 106 #[.string s, .string p] w fun e w' => e = .returned (.string ⟨(Lib.trimPrefix s.data.toList p.data.toList).toArray⟩) ∧ w' = w := Any.strings_TrimPrefix Tryz.lays101 s p w
def Tryz.laysM157_ren : Go.Shelf.Ren := ⟨fun | 157 => 42 | 229 => 72 | 199 => 73 | 261 => 92 | 311 => 119 | 312 => 120 | n => n, fun | 9 => 9 | 31 => 27 | 3 => 3 | 5 => 5 | 4 => 4 | 119 => 96 | 0 => 0 | 40 => 98 | 152 => 121 | 21 => 21 | 154 => 123 | 51 => 124 | 141 => 126 | 196 => 151 | 193 => 148 | 198 => 154 | 49 => 152 | 194 => 149 | 201 => 157 | 226 => 172 | 46 => 112 | 227 => 173 | n => n, fun | 0 => 0 | 6 => 1 | n => n⟩
theorem Tryz.laysM157 : Go.Proofs.LaysM.n157 Tryz.prog Tryz.laysM157_ren := {
  mixed := by kernel_rfl
  f157 := Tryz.func42.trans (congrArg some (by kernel_rfl))
  f199 := Tryz.func73.trans (congrArg some (by kernel_rfl))
  f229 := Tryz.func72.trans (congrArg some (by kernel_rfl))
  f261 := Tryz.func92.trans (congrArg some (by kernel_rfl))
  f311 := Tryz.func119.trans (congrArg some (by kernel_rfl))
  f312 := Tryz.func120.trans (congrArg some (by kernel_rfl))
  t0 := Tryz.underlying0
  a0 := Tryz.isAgg0
  z0 := Tryz.sizeOf0
  v0 := Tryz.zeroValue0
  t3 := Tryz.underlying3
  a3 := Tryz.isAgg3
  z3 := Tryz.sizeOf3
  v3 := Tryz.zeroValue3
  t4 := Tryz.underlying4
  a4 := Tryz.isAgg4
  z4 := Tryz.sizeOf4
  v4 := Tryz.zeroValue4
  t5 := Tryz.underlying5
  a5 := Tryz.isAgg5
  z5 := Tryz.sizeOf5
  v5 := Tryz.zeroValue5
  t9 := Tryz.underlying9
  a9 := Tryz.isAgg9
  z9 := Tryz.sizeOf9
  v9 := Tryz.zeroValue9
  t21 := Tryz.underlying21
  a21 := Tryz.isAgg21
  z21 := Tryz.sizeOf21
  v21 := Tryz.zeroValue21
  t31 := Tryz.underlying27
  a31 := Tryz.isAgg27
  z31 := Tryz.sizeOf27
  v31 := Tryz.zeroValue27
  t40 := Tryz.underlying98
  a40 := Tryz.isAgg98
  z40 := Tryz.sizeOf98
  v40 := Tryz.zeroValue98
  t46 := Tryz.underlying112
  a46 := Tryz.isAgg112
  z46 := Tryz.sizeOf112
  v46 := Tryz.zeroValue112
  t49 := Tryz.underlying152
  a49 := Tryz.isAgg152
  z49 := Tryz.sizeOf152
  v49 := Tryz.zeroValue152
  t51 := Tryz.underlying124
  a51 := Tryz.isAgg124
  z51 := Tryz.sizeOf124
  v51 := Tryz.zeroValue124
  t119 := Tryz.underlying96
  a119 := Tryz.isAgg96
  z119 := Tryz.sizeOf96
  t141 := Tryz.underlying126
  a141 := Tryz.isAgg126
  z141 := Tryz.sizeOf126
  v141 := Tryz.zeroValue126
  t152 := Tryz.underlying121
  a152 := Tryz.isAgg121
  z152 := Tryz.sizeOf121
  v152 := Tryz.zeroValue121
  t154 := Tryz.underlying123
  a154 := Tryz.isAgg123
  z154 := Tryz.sizeOf123
  v154 := Tryz.zeroValue123
  t193 := Tryz.underlying148
  a193 := Tryz.isAgg148
  z193 := Tryz.sizeOf148
  v193 := Tryz.zeroValue148
  t194 := Tryz.underlying149
  a194 := Tryz.isAgg149
  z194 := Tryz.sizeOf149
  v194 := Tryz.zeroValue149
  t196 := Tryz.underlying151
  a196 := Tryz.isAgg151
  z196 := Tryz.sizeOf151
  v196 := Tryz.zeroValue151
  t198 := Tryz.underlying154
  a198 := Tryz.isAgg154
  z198 := Tryz.sizeOf154
  v198 := Tryz.zeroValue154
  t201 := Tryz.underlying157
  a201 := Tryz.isAgg157
  z201 := Tryz.sizeOf157
  v201 := Tryz.zeroValue157
  t226 := Tryz.underlying172
  a226 := Tryz.isAgg172
  z226 := Tryz.sizeOf172
  v226 := Tryz.zeroValue172
  t227 := Tryz.underlying173
  a227 := Tryz.isAgg173
  z227 := Tryz.sizeOf173
  v227 := Tryz.zeroValue173
  g0 := by kernel_rfl
  g6 := by kernel_rfl
  i0 := by kernel_rfl
  i3 := by kernel_rfl
  i4 := by kernel_rfl
  i5 := by kernel_rfl
  i9 := by kernel_rfl
  i21 := by kernel_rfl
  i31 := by kernel_rfl
  i40 := by kernel_rfl
  i46 := by kernel_rfl
  i49 := by kernel_rfl
  i51 := by kernel_rfl
  i141 := by kernel_rfl
  i152 := by kernel_rfl
  i154 := by kernel_rfl
  i193 := by kernel_rfl
  i194 := by kernel_rfl
  i196 := by kernel_rfl
  i198 := by kernel_rfl
  i201 := by kernel_rfl
  i226 := by kernel_rfl
  i227 := by kernel_rfl
  m0 := by kernel_rfl
  m6 := by kernel_rfl }
open Go.RowKit Go.Lib in
/-- strings.Fields on ASCII bytes. (The table: 'Lib.TabIs', as strings.TrimSpace's contract asks it.) (LAID: no walk: one application.) -/
theorem Tryz.strings_Fields_laid (s : ByteArray) (w : World) (hs : s.size < 4294967281) (hascii : ∀ (j : Nat) b, s.data.toList[j]? = some b → b.toNat < 128) (htab : Lib.TabIs Tryz.prog w "strings.asciiSpace" .u8 Lib.asciiSpaceTab) :
    Calls Tryz.prog 42 #[.string s] w fun e w' =>
      e = .returned (.slice (some ⟨w.heap.size, 0, none⟩) (Lib.fields s.data.toList).length (Lib.fields s.data.toList).length) ∧ w' = w.alloc (.cells ((Lib.fields s.data.toList).map fun l => Value.string ⟨l.toArray⟩).toArray 9) := Any.strings_Fields_laid Tryz.laysM157 s w hs hascii htab
def Tryz.laysNm216_ren : Go.Shelf.Ren := ⟨fun | 16 => 26 | n => n, fun | 24 => 27 | 9 => 9 | 4 => 4 | n => n, fun | n => n⟩
theorem Tryz.laysNm216 : Go.Proofs.Lays2.n16 Tryz.prog Tryz.laysNm216_ren := {
  mixed := by kernel_rfl
  f16 := Tryz.func26.trans (congrArg some (by kernel_rfl))
  t4 := Tryz.underlying4
  a4 := Tryz.isAgg4
  z4 := Tryz.sizeOf4
  v4 := Tryz.zeroValue4
  t9 := Tryz.underlying9
  a9 := Tryz.isAgg9
  z9 := Tryz.sizeOf9
  v9 := Tryz.zeroValue9
  t24 := Tryz.underlying27
  a24 := Tryz.isAgg27
  z24 := Tryz.sizeOf27
  v24 := Tryz.zeroValue27
  i9 := by kernel_rfl }
open Go.RowKit Go.Lib in
/-- slices.Clone at []string: "Clone returns a copy of the slice. The elements are copied using assignment, so this is a shallow clone. The result may have additional unused capacity. The result preserves the nilness of s.": OF A SLICE THAT IS NOT nil IT RETURNS A SLICE THAT IS NOT nil, OF THE SAME ELEMENTS, IN MEMORY OF THE CALL's OWN: in the how-to's words (6f): 'w'.ownsRow B e 1 v' n cells': v' begins at the head of a row among the blocks from B on (B: the heap's size at the call), not frozen, whose first cells are the elements · 'Below B w w'': below B all is as it was. The capacity is whatever the run-time gives. 'zs': what the cells behind the slice's address hold; 'zs.take n': its elements. (LAID: no walk: one application.) -/
theorem Tryz.slices_Clone_string (b off n c : Nat) (zs : List ByteArray) (w : World) (hz : n ≤ zs.length) (hbig : n * 16 ≤ 140737488355328) (hc : ∀ j, j < zs.length → w.cell? ⟨b, off + j, none⟩ = some (.string (zs.getD j ByteArray.empty))) :
    Calls Tryz.prog 26 #[.slice (some ⟨b, off, none⟩) n c] w fun e w' => ∃ v', e = .returned v' ∧ w'.ownsRow w.heap.size 9 1 v' n ((zs.take n).map (Value.string)) ∧ v' ≠ .slice none 0 0 ∧ Below w.heap.size w w' := Any.slices_Clone_string Tryz.laysNm216 b off n c zs w hz hbig hc
open Go.RowKit Go.Lib in
/-- The same at nil: nil comes back; the world is as it was. (LAID: no walk: one application.) -/
theorem Tryz.slices_Clone_string_nil (n c : Nat) (w : World) :
    Calls Tryz.prog 26 #[.slice none n c] w fun e w' => e = .returned (.slice none 0 0) ∧ w' = w := Any.slices_Clone_string_nil Tryz.laysNm216 n c w
open Go.RowKit Go.Lib in
/-- The same at a slice of length 0 that is not nil, WHATEVER ITS ADDRESS (no cell is asked for): a slice that is not nil and owns nothing comes back. (LAID: no walk: one application.) -/
theorem Tryz.slices_Clone_string_zero (a : Addr) (c : Nat) (w : World) :
    Calls Tryz.prog 26 #[.slice (some a) 0 c] w fun e w' => ∃ v', e = .returned v' ∧ w'.ownsRow w.heap.size 9 1 v' 0 [] ∧ v' ≠ .slice none 0 0 ∧ Below w.heap.size w w' := Any.slices_Clone_string_zero Tryz.laysNm216 a c w
def Tryz.lays194_ren : Go.Shelf.Ren := ⟨fun | 194 => 53 | n => n, fun | 31 => 27 | 9 => 9 | 3 => 3 | 4 => 4 | 0 => 0 | n => n, fun | n => n⟩
theorem Tryz.lays194 : Go.Proofs.Lays.n194 Tryz.prog Tryz.lays194_ren := {
  mixed := by kernel_rfl
  f194 := Tryz.func53.trans (congrArg some (by kernel_rfl))
  t0 := Tryz.underlying0
  a0 := Tryz.isAgg0
  z0 := Tryz.sizeOf0
  v0 := Tryz.zeroValue0
  t3 := Tryz.underlying3
  a3 := Tryz.isAgg3
  z3 := Tryz.sizeOf3
  v3 := Tryz.zeroValue3
  t4 := Tryz.underlying4
  a4 := Tryz.isAgg4
  z4 := Tryz.sizeOf4
  v4 := Tryz.zeroValue4
  t9 := Tryz.underlying9
  a9 := Tryz.isAgg9
  z9 := Tryz.sizeOf9
  v9 := Tryz.zeroValue9
  t31 := Tryz.underlying27
  a31 := Tryz.isAgg27
  z31 := Tryz.sizeOf27
  v31 := Tryz.zeroValue27 }
open Go.RowKit Go.Lib Go.Sort in
/-- slices.Compact at []string: "Compact replaces consecutive runs of equal elements with a single copy. This is like the uniq command found on Unix. Compact modifies the contents of the slice s and returns the modified slice, which may have a smaller length. Compact zeroes the elements between the new length and the original length. The result preserves the nilness of s.": IT RETURNS THE SLICE CUT TO 'Lib.compact zs'; ITS CELLS HOLD 'Lib.compact zs', THEN ZERO VALUES up to the old length; all else is as it was, but for the count of draws. IN THE WORDS OF slices.Sort's CONTRACT ('Holds', 'putRow'): so the everyday 'slices.Sort(xs); xs = slices.Compact(xs)' goes from the one contract to the other. It asks 'zs.length ≤ cap' (every slice's: the reslicing 's[:k]' looks at it). Length 0, nil: '.._empty'. (LAID: no walk: one application.) -/
theorem Tryz.slices_Compact_string (blk off cap : Nat) (zs : List (List UInt8)) (w : World) (hH : Holds encStr w blk off zs.toArray) (hsz : zs.length ≤ 9223372036854775807) (hcap : zs.length ≤ cap) :
    Calls Tryz.prog 53 #[.slice (some ⟨blk, off, none⟩) zs.length cap] w fun e w' => e = .returned (.slice (some ⟨blk, off, none⟩) (Lib.compact zs).length cap) ∧ ∃ q, w' = putRow encStr (Sort.ahead w q) blk off (Lib.compact zs ++ List.replicate (zs.length - (Lib.compact zs).length) []).toArray := Any.slices_Compact_string Tryz.lays194 blk off cap zs w hH hsz hcap
open Go.RowKit Go.Lib Go.Sort in
/-- The same at a slice of length 0, a nil one too: it comes back as it is. (LAID: no walk: one application.) -/
theorem Tryz.slices_Compact_string_empty (a : Option Addr) (cap : Nat) (w : World) :
    Calls Tryz.prog 53 #[.slice a 0 cap] w fun e w' => e = .returned (.slice a 0 cap) ∧ w' = w := Any.slices_Compact_string_empty Tryz.lays194 a cap w
open Go.RowKit Go.Sort in
/-- .. and plain. (LAID: no walk: one application.) -/
theorem Tryz.slices_Sort_string_none (p : Option Addr) (cap : Nat) (w : World) :
    Calls Tryz.prog 52 #[.slice p 0 cap] w fun e w' => e = .returned (.tuple #[]) ∧ w' = w := Any.slices_Sort_string_none Tryz.lays190 p cap w
end Go.Proofs
namespace Go.Proofs
open Go.RowKit
set_option maxHeartbeats 1000000 in
set_option maxRecDepth 100000 in
theorem cc_used (b : Nat) (w : World) (h0 : w.cell? ⟨b, 0, none⟩ = some (.pointer (some ⟨b, 0, none⟩))) :
    Calls Tryz.prog 103 #[.pointer (some ⟨b, 0, none⟩)] w fun e w' => e = .returned (.tuple #[]) ∧ w' = w := by
  have hz : (Tryz.prog.info? 105).map (·.size) = some 2 := by kernel_rfl
  obtain ⟨j, hj, hjs⟩ := Option.map_eq_some_iff.1 hz
  go_enter Tryz.func103, Tryz.ntmps103
  go_wp2
  rw [Lib.run_neq_ptr_same w _ (Tryz.underlying103) hj]
  go_wp2
  go_end0
  exact ⟨rfl, rfl⟩
set_option maxHeartbeats 1000000 in
set_option maxRecDepth 100000 in
theorem cc_fresh (b : Nat) (w : World) (h0 : w.cell? ⟨b, 0, none⟩ = some (.pointer none)) (hsh : w.shape? b = some (105, 2)) (hfz : w.frozen? ⟨b, 0, none⟩ = false) :
    Calls Tryz.prog 103 #[.pointer (some ⟨b, 0, none⟩)] w fun e w' => e = .returned (.tuple #[]) ∧ w' = w.setCell ⟨b, 0, none⟩ (.pointer (some ⟨b, 0, none⟩)) := by
  have hz : (Tryz.prog.info? 105).map (·.size) = some 2 := by kernel_rfl
  obtain ⟨j, hj, hjs⟩ := Option.map_eq_some_iff.1 hz
  go_enter Tryz.func103, Tryz.ntmps103
  go_wp2
  rw [Lib.run_to_unsafe w ⟨b, 0, none⟩ (Tryz.underlying103) (Tryz.underlying163) hj (by rw [hjs]; decide) hsh (Nat.zero_lt_succ 1)]
  simp only [Result.andThen]
  rw [Oper.upon_value]
  go_wp2
  rw [run_callFunc_extern Tryz.func129 (by kernel_rfl) (by kernel_rfl) (by kernel_rfl) (e := Extern.AbiNoEscape.same) (by kernel_rfl)]
  rw [Lib.run_noEscape]
  simp only [Result.andThen]
  rw [Oper.upon_value]
  go_wp2
  rw [Lib.run_from_unsafe w ⟨b, 0, none⟩ (Tryz.underlying163) (Tryz.underlying103) hj hsh (by kernel_rfl)]
  simp only [Result.andThen]
  rw [Oper.upon_value]
  go_wp2
  go_end0
  exact ⟨rfl, rfl⟩
end Go.Proofs
namespace Go.Ka
open Go.Proofs Go.RowKit
/-- The tables that the library reads. -/
class Tabs [Tab] : Prop where
  pow : ∀ w, TabOn w → Lib.TabIs Tryz.prog w "internal/strconv.uint64pow10" .u64 Lib.pow10Tab
  asc : ∀ w, TabOn w → Lib.TabIs Tryz.prog w "strings.asciiSpace" .u8 Lib.asciiSpaceTab
  syn : ∀ w, TabOn w → ∃ t v, w.cell? ⟨5, 0, none⟩ = some (.iface t v)
  rng : ∀ w, TabOn w → ∃ t v, w.cell? ⟨6, 0, none⟩ = some (.iface t v)
variable [Tab] [Tabs]

theorem l_indexByte (s : Str) (c : UInt8) (r : Int) (h : s_indexByte s c = some r) : Pu Tryz.prog 95 [tx s, u8 c] (i64 r) := by
  cases h
  refine pu_val (vs := [str s, .int .u8 c.toNat]) nfv Pl.val fun w _ => ?_
  refine (Tryz.strings_IndexByte ⟨s.toArray⟩ c.toNat w).mono fun e w' hx => ?_
  obtain ⟨rfl, rfl⟩ := hx
  exact ⟨_, rfl, by simp; exact .val _ rfl, below_self _⟩
theorem l_indexByteL (s : Str) (c : UInt8) (r : Int) (h : s_indexByte s c = some r) : Pu Tryz.prog 121 [tx s, u8 c] (i64 r) := by
  cases h
  refine pu_val (vs := [str s, .int .u8 c.toNat]) nfv Pl.val fun w _ => ?_
  refine (Tryz.stringslite_IndexByte ⟨s.toArray⟩ c.toNat w).mono fun e w' hx => ?_
  obtain ⟨rfl, rfl⟩ := hx
  exact ⟨_, rfl, by simp; exact .val _ rfl, below_self _⟩
theorem l_trimPrefix (s p r : Str) (h : s_trimPrefix s p = some r) : Pu Tryz.prog 106 [tx s, tx p] (tx r) := by
  cases h
  refine pu_val (vs := [str s, str p]) nfv Pl.val fun w _ => ?_
  refine (Tryz.strings_TrimPrefix ⟨s.toArray⟩ ⟨p.toArray⟩ w).mono fun e w' hx => ?_
  obtain ⟨rfl, rfl⟩ := hx
  exact ⟨_, rfl, by simp; exact .val _ rfl, below_self _⟩
theorem l_trim (s t r : Str) (h : s_trim s t = some r) : Pu Tryz.prog 79 [tx s, tx t] (tx r) := by
  unfold s_trim at h
  split at h
  · rename_i c
    obtain ⟨hb, rfl⟩ := okO_inv h
    simp only [Bool.and_eq_true, decide_eq_true_eq] at hb
    refine pu_val (vs := [str s, str [c]]) nfv Pl.val fun w _ => ?_
    refine (Tryz.strings_Trim_one ⟨s.toArray⟩ c hb.1 w (by simpa [ByteArray.size] using hb.2)).mono fun e w' hx => ?_
    obtain ⟨rfl, hw⟩ := hx
    refine ⟨_, rfl, by simp; exact .val _ rfl, ?_⟩
    rcases hw with rfl | rfl
    · exact below_self _
    · exact below_drew _
  · cases h
theorem l_itoa (n : Int) (r : Str) (h : s_itoa n = some r) : Pu Tryz.prog 105 [i64 n] (tx r) := by
  obtain ⟨hb, rfl⟩ := okO_inv h
  have hb := inR_iff.1 hb
  refine pu_val (vs := [.int .i64 n]) nfv Pl.val fun w ht => ?_
  refine (Tryz.strconv_Itoa n (by omega) (by omega) w (Tabs.pow w ht)).mono fun e w' hx => ?_
  obtain ⟨rfl, k, os, rfl⟩ := hx
  exact ⟨_, rfl, .val _ rfl, rfl, rfl, rfl, by simp [Sort.grow, World.drewN], fun b hb => by simp [Sort.grow, World.drewN, Array.getElem?_append_left hb]⟩
theorem below_bytes (w : World) (n : TypeId) (t : ByteArray) : Below w.heap.size w (Lib.bytesWorld w n t) := by
  unfold Lib.bytesWorld World.freeze
  split
  · exact ⟨rfl, rfl, rfl, by show _ ≤ (w.heap.push _).size; simp, fun b hb => by show (w.heap.push _)[b]? = _; rw [Array.getElem?_push_lt hb]; simp [hb]⟩
  · refine ⟨rfl, rfl, rfl, by show _ ≤ ((w.heap.push _).modify _ _).size; simp, fun b hb => ?_⟩
    show ((w.heap.push _).modify w.heap.size _)[b]? = _
    rw [Array.getElem?_modify, if_neg (by omega), Array.getElem?_push_lt hb]
    simp [hb]
theorem l_atoi (s : Str) (r : Int × Bool) (h : s_atoi s = some r) : Pu Tryz.prog 104 [tx s] (.tup [i64 r.1, er r.2]) := by
  obtain ⟨hb, rfl⟩ := okO_inv h
  have hb : s.length ≤ 281474976710656 := by simpa using hb
  refine pu_val (vs := [str s]) (NF.tup (nfc nfv (nfc nfr nfn))) (Pl.tup (plc Pl.val (plc Pl.er pln))) fun w ht => ?_
  have hsz : (⟨s.toArray⟩ : ByteArray).size ≤ 281474976710656 := by simpa [ByteArray.size] using hb
  cases hc : Lib.atoiAll s with
  | ok v =>
    refine (Tryz.strconv_Atoi_ok ⟨s.toArray⟩ (by omega) v hc w).mono fun e w' hx => ?_
    obtain ⟨rfl, hw⟩ := hx
    refine ⟨_, rfl, .tup [_, _] _ rfl (fun j v u hv hu => ?_), ?_⟩
    · match j with
      | 0 => simp at hv hu; subst hv; subst hu; exact .val _ rfl
      | 1 => simp at hv hu; subst hv; subst hu; exact .val _ rfl
      | j + 2 => simp at hv
    · rcases hw with rfl | ⟨t, rfl⟩
      · exact below_self _
      · exact below_bytes _ _ _
  | range =>
    obtain ⟨t, v, hv⟩ := Tabs.rng w ht
    refine (Tryz.strconv_Atoi_range ⟨s.toArray⟩ hsz hc _ w hv (.inr ⟨t, v, rfl⟩)).mono fun e w' hx => ?_
    obtain ⟨N, rfl, _, _, hbl⟩ := hx
    refine ⟨_, rfl, .tup [_, _] _ rfl (fun j v u hv hu => ?_), hbl⟩
    match j with
      | 0 => simp at hv hu; subst hv; subst hu; exact .val _ rfl
      | 1 => simp at hv hu; subst hv; subst hu; exact .nz _ _
      | j + 2 => simp at hv
  | _ =>
    obtain ⟨t, v, hv⟩ := Tabs.syn w ht
    refine (Tryz.strconv_Atoi_none ⟨s.toArray⟩ hsz hc _ w hv (.inr ⟨t, v, rfl⟩)).mono fun e w' hx => ?_
    obtain ⟨N, rfl, _, _, hbl⟩ := hx
    refine ⟨_, rfl, .tup [_, _] _ rfl (fun j v u hv hu => ?_), hbl⟩
    match j with
      | 0 => simp at hv hu; subst hv; subst hu; exact .val _ rfl
      | 1 => simp at hv hu; subst hv; subst hu; exact .nz _ _
      | j + 2 => simp at hv
theorem l_sortS {id n : Nat} (hid : Nat.blt id n = true) (l : List Str) (u : Unit) (h : s_sortS l = some u) : Fx Tryz.prog 52 [.own id 0 l.length] (hl [(id, ob l)]) n (.tup []) [(id, some (ob (sortL l)))] :=
  sort_fx (fun p cap w => Tryz.slices_Sort_string_none p cap w) (fun b o c ss w h1 h2 h3 => Tryz.slices_Sort_string b o c ss w h1 h2 h3) h (by simpa using hid)
theorem l_compactS {id n : Nat} (hid : Nat.blt id n = true) (l l' : List Str) (h : s_compactS l = some l') : Fx Tryz.prog 53 [.own id 0 l.length] (hl [(id, ob l)]) n (.own id 0 l'.length) [(id, some (ob (l' ++ List.replicate (l.length - l'.length) [])))] :=
  compact_fx (fun p cap w => Tryz.slices_Compact_string_empty p cap w) (fun b o c zs w h1 h2 h3 => Tryz.slices_Compact_string b o c zs w h1 h2 h3) h (by simpa using hid)
theorem l_cloneS (l l' : List Str) (h : s_cloneS l = some l') : Nw Tryz.prog 26 [ar l] (fun id => .own id 0 l'.length) (ob l') :=
  nw_cloneS (fun n c w => Tryz.slices_Clone_string_nil n c w) (fun a c w => Tryz.slices_Clone_string_zero a c w) (fun b o n c zs w h1 h2 h3 => Tryz.slices_Clone_string b o n c zs w h1 h2 h3) h
theorem l_fields (s : Str) (l : List Str) (h : s_fields s = some l) : Nw Tryz.prog 42 [tx s] (fun id => .own id 0 l.length) (ob l) :=
  nw_fields (fun s w ht h1 h2 => Tryz.strings_Fields_laid s w h1 h2 (Tabs.asc w ht)) h
theorem l_copyCheck {s k m e n : Nat} (hs : Nat.blt s n = true) (hk : Nat.blt k n = true) : Fx Tryz.prog 103 [.ptr s 0 0] (hl [(s, bO s k m 105 e)]) n (.tup []) [(s, some (bO s k m 105 e))] :=
  fx_cc (fun b w h => cc_used b w h) (fun b w h1 h2 h3 => cc_fresh b w h1 h2 h3) hs hk
end Go.Ka
