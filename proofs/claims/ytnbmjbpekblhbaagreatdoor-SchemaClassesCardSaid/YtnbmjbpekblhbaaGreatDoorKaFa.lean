/- What the types of this program say. -/
import Derived.Test.YtnbmjbpekblhbaaGreatDoorKaBv
import Derived.Test.YtnbmjbpekblhbaaGreatDoorProg
set_option linter.all false
namespace Go.Ka.Tryz
open Go.Proofs
theorem mixed : Tryz.prog.follows .mixedOrders = true := by kernel_rfl
theorem A77 : Ar Tryz.prog 77 5 1 [.val (.string ⟨#[]⟩), .val (.string ⟨#[]⟩), .val (.string ⟨#[]⟩), .val (.string ⟨#[]⟩), .val (.string ⟨#[]⟩)] := ⟨9, by kernel_rfl, by kernel_rfl, by kernel_rfl⟩
theorem B119 : Bd Tryz.prog 119 [.val (.int .i64 0), .val (.bool false)] [(0, 1), (1, 1)] := ⟨by kernel_rfl, by kernel_rfl⟩
theorem B24 : Bd Tryz.prog 24 [.val (.string ⟨#[]⟩), .val (.slice none 0 0)] [(0, 1), (1, 1)] := ⟨by kernel_rfl, by kernel_rfl⟩
theorem B29 : Bd Tryz.prog 29 [.val (.string ⟨#[]⟩), .val (.string ⟨#[]⟩), .val (.bool false), .val (.slice none 0 0), .val (.slice none 0 0)] [(0, 1), (1, 1), (2, 1), (3, 1), (4, 1)] := ⟨by kernel_rfl, by kernel_rfl⟩
theorem B33 : Bd Tryz.prog 33 [.val (.string ⟨#[]⟩), .val (.string ⟨#[]⟩), .val (.bool false), .val (.slice none 0 0), .val (.slice none 0 0), .val (.bool false)] [(0, 5), (5, 1)] := ⟨by kernel_rfl, by kernel_rfl⟩
theorem B42 : Bd Tryz.prog 42 [.val (.string ⟨#[]⟩), .val (.slice none 0 0)] [(0, 1), (1, 1)] := ⟨by kernel_rfl, by kernel_rfl⟩
theorem B49 : Bd Tryz.prog 49 [.val (.string ⟨#[]⟩), .val (.string ⟨#[]⟩)] [(0, 1), (1, 1)] := ⟨by kernel_rfl, by kernel_rfl⟩
theorem B69 : Bd Tryz.prog 69 [.val (.slice none 0 0), .val (.bool false)] [(0, 1), (1, 1)] := ⟨by kernel_rfl, by kernel_rfl⟩
theorem B72 : Bd Tryz.prog 72 [.val (.string ⟨#[]⟩), .val (.bool false)] [(0, 1), (1, 1)] := ⟨by kernel_rfl, by kernel_rfl⟩
theorem D136 : Tryz.prog.underlying 136 = some (.pointer 5) := by kernel_rfl
theorem E22 : El Tryz.prog 22 2 40 := ⟨42, [.val (.string ⟨#[]⟩), .val (.slice none 0 0)], by kernel_rfl, by kernel_rfl, by kernel_rfl, by kernel_rfl, rfl, by decide⟩
theorem E27 : El Tryz.prog 27 1 16 := ⟨9, [.val (.string ⟨#[]⟩)], by kernel_rfl, by kernel_rfl, by kernel_rfl, by kernel_rfl, rfl, by decide⟩
theorem E38 : El Tryz.prog 38 1 1 := ⟨5, [.val (.int .u8 0)], by kernel_rfl, by kernel_rfl, by kernel_rfl, by kernel_rfl, rfl, by decide⟩
theorem E50 : El Tryz.prog 50 2 32 := ⟨49, [.val (.string ⟨#[]⟩), .val (.string ⟨#[]⟩)], by kernel_rfl, by kernel_rfl, by kernel_rfl, by kernel_rfl, rfl, by decide⟩
theorem E54 : El Tryz.prog 54 1 8 := ⟨3, [.val (.int .i64 0)], by kernel_rfl, by kernel_rfl, by kernel_rfl, by kernel_rfl, rfl, by decide⟩
theorem E55 : El Tryz.prog 55 5 88 := ⟨29, [.val (.string ⟨#[]⟩), .val (.string ⟨#[]⟩), .val (.bool false), .val (.slice none 0 0), .val (.slice none 0 0)], by kernel_rfl, by kernel_rfl, by kernel_rfl, by kernel_rfl, rfl, by decide⟩
theorem E78 : El Tryz.prog 78 5 80 := ⟨77, [.val (.string ⟨#[]⟩), .val (.string ⟨#[]⟩), .val (.string ⟨#[]⟩), .val (.string ⟨#[]⟩), .val (.string ⟨#[]⟩)], by kernel_rfl, by kernel_rfl, by kernel_rfl, by kernel_rfl, rfl, by decide⟩
theorem F105_1 : Fa Tryz.prog 105 1 1 := ⟨38, 1, by kernel_rfl, by kernel_rfl, by decide⟩
theorem F24_0 : Fa Tryz.prog 24 0 0 := ⟨9, 1, by kernel_rfl, by kernel_rfl, by decide⟩
theorem F24_1 : Fa Tryz.prog 24 1 1 := ⟨22, 1, by kernel_rfl, by kernel_rfl, by decide⟩
theorem F29_0 : Fa Tryz.prog 29 0 0 := ⟨9, 1, by kernel_rfl, by kernel_rfl, by decide⟩
theorem F29_1 : Fa Tryz.prog 29 1 1 := ⟨9, 1, by kernel_rfl, by kernel_rfl, by decide⟩
theorem F29_2 : Fa Tryz.prog 29 2 2 := ⟨4, 1, by kernel_rfl, by kernel_rfl, by decide⟩
theorem F29_3 : Fa Tryz.prog 29 3 3 := ⟨27, 1, by kernel_rfl, by kernel_rfl, by decide⟩
theorem F29_4 : Fa Tryz.prog 29 4 4 := ⟨27, 1, by kernel_rfl, by kernel_rfl, by decide⟩
theorem F33_0 : Fa Tryz.prog 33 0 0 := ⟨29, 5, by kernel_rfl, by kernel_rfl, by decide⟩
theorem F33_1 : Fa Tryz.prog 33 1 5 := ⟨4, 1, by kernel_rfl, by kernel_rfl, by decide⟩
theorem F42_0 : Fa Tryz.prog 42 0 0 := ⟨9, 1, by kernel_rfl, by kernel_rfl, by decide⟩
theorem F42_1 : Fa Tryz.prog 42 1 1 := ⟨27, 1, by kernel_rfl, by kernel_rfl, by decide⟩
theorem F49_0 : Fa Tryz.prog 49 0 0 := ⟨9, 1, by kernel_rfl, by kernel_rfl, by decide⟩
theorem F49_1 : Fa Tryz.prog 49 1 1 := ⟨9, 1, by kernel_rfl, by kernel_rfl, by decide⟩
theorem F69_0 : Fa Tryz.prog 69 0 0 := ⟨50, 1, by kernel_rfl, by kernel_rfl, by decide⟩
theorem F69_1 : Fa Tryz.prog 69 1 1 := ⟨4, 1, by kernel_rfl, by kernel_rfl, by decide⟩
theorem F72_0 : Fa Tryz.prog 72 0 0 := ⟨9, 1, by kernel_rfl, by kernel_rfl, by decide⟩
theorem F72_1 : Fa Tryz.prog 72 1 1 := ⟨4, 1, by kernel_rfl, by kernel_rfl, by decide⟩
theorem L119 : Ld Tryz.prog 119 true 2 := ⟨by kernel_rfl, by kernel_rfl⟩
theorem L22 : Ld Tryz.prog 22 false 1 := ⟨by kernel_rfl, by kernel_rfl⟩
theorem L24 : Ld Tryz.prog 24 true 2 := ⟨by kernel_rfl, by kernel_rfl⟩
theorem L27 : Ld Tryz.prog 27 false 1 := ⟨by kernel_rfl, by kernel_rfl⟩
theorem L29 : Ld Tryz.prog 29 true 5 := ⟨by kernel_rfl, by kernel_rfl⟩
theorem L3 : Ld Tryz.prog 3 false 1 := ⟨by kernel_rfl, by kernel_rfl⟩
theorem L33 : Ld Tryz.prog 33 true 6 := ⟨by kernel_rfl, by kernel_rfl⟩
theorem L38 : Ld Tryz.prog 38 false 1 := ⟨by kernel_rfl, by kernel_rfl⟩
theorem L4 : Ld Tryz.prog 4 false 1 := ⟨by kernel_rfl, by kernel_rfl⟩
theorem L42 : Ld Tryz.prog 42 true 2 := ⟨by kernel_rfl, by kernel_rfl⟩
theorem L49 : Ld Tryz.prog 49 true 2 := ⟨by kernel_rfl, by kernel_rfl⟩
theorem L5 : Ld Tryz.prog 5 false 1 := ⟨by kernel_rfl, by kernel_rfl⟩
theorem L50 : Ld Tryz.prog 50 false 1 := ⟨by kernel_rfl, by kernel_rfl⟩
theorem L69 : Ld Tryz.prog 69 true 2 := ⟨by kernel_rfl, by kernel_rfl⟩
theorem L72 : Ld Tryz.prog 72 true 2 := ⟨by kernel_rfl, by kernel_rfl⟩
theorem L77 : Ld Tryz.prog 77 true 5 := ⟨by kernel_rfl, by kernel_rfl⟩
theorem L9 : Ld Tryz.prog 9 false 1 := ⟨by kernel_rfl, by kernel_rfl⟩
theorem N107 : Tryz.prog.underlying 107 = some (.interface (Tryz.prog.methodsAt 107)) := by kernel_rfl
theorem P10 : plain Tryz.prog 10 = true := by kernel_rfl
theorem P103 : plain Tryz.prog 103 = true := by kernel_rfl
theorem P104 : plain Tryz.prog 104 = true := by kernel_rfl
theorem P105 : plain Tryz.prog 105 = true := by kernel_rfl
theorem P106 : plain Tryz.prog 106 = true := by kernel_rfl
theorem P11 : plain Tryz.prog 11 = true := by kernel_rfl
theorem P118 : plain Tryz.prog 118 = true := by kernel_rfl
theorem P12 : plain Tryz.prog 12 = true := by kernel_rfl
theorem P121 : plain Tryz.prog 121 = true := by kernel_rfl
theorem P13 : plain Tryz.prog 13 = true := by kernel_rfl
theorem P14 : plain Tryz.prog 14 = true := by kernel_rfl
theorem P15 : plain Tryz.prog 15 = true := by kernel_rfl
theorem P18 : plain Tryz.prog 18 = true := by kernel_rfl
theorem P19 : plain Tryz.prog 19 = true := by kernel_rfl
theorem P20 : plain Tryz.prog 20 = true := by kernel_rfl
theorem P21 : plain Tryz.prog 21 = true := by kernel_rfl
theorem P22 : plain Tryz.prog 22 = true := by kernel_rfl
theorem P23 : plain Tryz.prog 23 = true := by kernel_rfl
theorem P24 : plain Tryz.prog 24 = true := by kernel_rfl
theorem P25 : plain Tryz.prog 25 = true := by kernel_rfl
theorem P26 : plain Tryz.prog 26 = true := by kernel_rfl
theorem P27 : plain Tryz.prog 27 = true := by kernel_rfl
theorem P28 : plain Tryz.prog 28 = true := by kernel_rfl
theorem P29 : plain Tryz.prog 29 = true := by kernel_rfl
theorem P30 : plain Tryz.prog 30 = true := by kernel_rfl
theorem P31 : plain Tryz.prog 31 = true := by kernel_rfl
theorem P32 : plain Tryz.prog 32 = true := by kernel_rfl
theorem P33 : plain Tryz.prog 33 = true := by kernel_rfl
theorem P34 : plain Tryz.prog 34 = true := by kernel_rfl
theorem P35 : plain Tryz.prog 35 = true := by kernel_rfl
theorem P36 : plain Tryz.prog 36 = true := by kernel_rfl
theorem P37 : plain Tryz.prog 37 = true := by kernel_rfl
theorem P38 : plain Tryz.prog 38 = true := by kernel_rfl
theorem P39 : plain Tryz.prog 39 = true := by kernel_rfl
theorem P40 : plain Tryz.prog 40 = true := by kernel_rfl
theorem P41 : plain Tryz.prog 41 = true := by kernel_rfl
theorem P42 : plain Tryz.prog 42 = true := by kernel_rfl
theorem P43 : plain Tryz.prog 43 = true := by kernel_rfl
theorem P44 : plain Tryz.prog 44 = true := by kernel_rfl
theorem P45 : plain Tryz.prog 45 = true := by kernel_rfl
theorem P46 : plain Tryz.prog 46 = true := by kernel_rfl
theorem P47 : plain Tryz.prog 47 = true := by kernel_rfl
theorem P48 : plain Tryz.prog 48 = true := by kernel_rfl
theorem P49 : plain Tryz.prog 49 = true := by kernel_rfl
theorem P50 : plain Tryz.prog 50 = true := by kernel_rfl
theorem P51 : plain Tryz.prog 51 = true := by kernel_rfl
theorem P52 : plain Tryz.prog 52 = true := by kernel_rfl
theorem P53 : plain Tryz.prog 53 = true := by kernel_rfl
theorem P54 : plain Tryz.prog 54 = true := by kernel_rfl
theorem P55 : plain Tryz.prog 55 = true := by kernel_rfl
theorem P56 : plain Tryz.prog 56 = true := by kernel_rfl
theorem P57 : plain Tryz.prog 57 = true := by kernel_rfl
theorem P58 : plain Tryz.prog 58 = true := by kernel_rfl
theorem P59 : plain Tryz.prog 59 = true := by kernel_rfl
theorem P60 : plain Tryz.prog 60 = true := by kernel_rfl
theorem P61 : plain Tryz.prog 61 = true := by kernel_rfl
theorem P62 : plain Tryz.prog 62 = true := by kernel_rfl
theorem P63 : plain Tryz.prog 63 = true := by kernel_rfl
theorem P64 : plain Tryz.prog 64 = true := by kernel_rfl
theorem P65 : plain Tryz.prog 65 = true := by kernel_rfl
theorem P66 : plain Tryz.prog 66 = true := by kernel_rfl
theorem P67 : plain Tryz.prog 67 = true := by kernel_rfl
theorem P68 : plain Tryz.prog 68 = true := by kernel_rfl
theorem P69 : plain Tryz.prog 69 = true := by kernel_rfl
theorem P70 : plain Tryz.prog 70 = true := by kernel_rfl
theorem P71 : plain Tryz.prog 71 = true := by kernel_rfl
theorem P74 : plain Tryz.prog 74 = true := by kernel_rfl
theorem P75 : plain Tryz.prog 75 = true := by kernel_rfl
theorem P76 : plain Tryz.prog 76 = true := by kernel_rfl
theorem P77 : plain Tryz.prog 77 = true := by kernel_rfl
theorem P78 : plain Tryz.prog 78 = true := by kernel_rfl
theorem P79 : plain Tryz.prog 79 = true := by kernel_rfl
theorem P80 : plain Tryz.prog 80 = true := by kernel_rfl
theorem P81 : plain Tryz.prog 81 = true := by kernel_rfl
theorem P82 : plain Tryz.prog 82 = true := by kernel_rfl
theorem P83 : plain Tryz.prog 83 = true := by kernel_rfl
theorem P84 : plain Tryz.prog 84 = true := by kernel_rfl
theorem P85 : plain Tryz.prog 85 = true := by kernel_rfl
theorem P86 : plain Tryz.prog 86 = true := by kernel_rfl
theorem P89 : plain Tryz.prog 89 = true := by kernel_rfl
theorem P9 : plain Tryz.prog 9 = true := by kernel_rfl
theorem P90 : plain Tryz.prog 90 = true := by kernel_rfl
theorem P91 : plain Tryz.prog 91 = true := by kernel_rfl
theorem P93 : plain Tryz.prog 93 = true := by kernel_rfl
theorem P94 : plain Tryz.prog 94 = true := by kernel_rfl
theorem P95 : plain Tryz.prog 95 = true := by kernel_rfl
theorem Q4 : Tryz.prog.underlying 4 = some .bool := by kernel_rfl
theorem T9 : isStr Tryz.prog 9 = true := by kernel_rfl
theorem U3 : (Tryz.prog.underlying 3).isSome = true := by kernel_rfl
theorem U5 : (Tryz.prog.underlying 5).isSome = true := by kernel_rfl
theorem U76 : (Tryz.prog.underlying 76).isSome = true := by kernel_rfl
theorem W3 : wordOf Tryz.prog 3 = some .i64 := by kernel_rfl
theorem W5 : wordOf Tryz.prog 5 = some .u8 := by kernel_rfl
theorem W76 : wordOf Tryz.prog 76 = some .u64 := by kernel_rfl
theorem Y38 : Eb Tryz.prog 38 := ⟨5, by kernel_rfl, by kernel_rfl⟩
theorem Z105 : zcells Tryz.prog 105 = some [.val (.pointer none), .val (.slice none 0 0)] := by kernel_rfl
theorem Z119 : zcells Tryz.prog 119 = some [.val (.int .i64 0), .val (.bool false)] := by kernel_rfl
theorem Z24 : zcells Tryz.prog 24 = some [.val (.string ⟨#[]⟩), .val (.slice none 0 0)] := by kernel_rfl
theorem Z27 : zcells Tryz.prog 27 = some [.val (.slice none 0 0)] := by kernel_rfl
theorem Z29 : zcells Tryz.prog 29 = some [.val (.string ⟨#[]⟩), .val (.string ⟨#[]⟩), .val (.bool false), .val (.slice none 0 0), .val (.slice none 0 0)] := by kernel_rfl
theorem Z33 : zcells Tryz.prog 33 = some [.val (.string ⟨#[]⟩), .val (.string ⟨#[]⟩), .val (.bool false), .val (.slice none 0 0), .val (.slice none 0 0), .val (.bool false)] := by kernel_rfl
theorem Z42 : zcells Tryz.prog 42 = some [.val (.string ⟨#[]⟩), .val (.slice none 0 0)] := by kernel_rfl
theorem Z49 : zcells Tryz.prog 49 = some [.val (.string ⟨#[]⟩), .val (.string ⟨#[]⟩)] := by kernel_rfl
theorem Z69 : zcells Tryz.prog 69 = some [.val (.slice none 0 0), .val (.bool false)] := by kernel_rfl
theorem Z72 : zcells Tryz.prog 72 = some [.val (.string ⟨#[]⟩), .val (.bool false)] := by kernel_rfl
theorem Z77 : zcells Tryz.prog 77 = some [.val (.string ⟨#[]⟩), .val (.string ⟨#[]⟩), .val (.string ⟨#[]⟩), .val (.string ⟨#[]⟩), .val (.string ⟨#[]⟩)] := by kernel_rfl
theorem Z9 : zcells Tryz.prog 9 = some [.val (.string ⟨#[]⟩)] := by kernel_rfl
theorem c5 : Tryz.prog.cellsOf 5 = 1 := by kernel_rfl
theorem f119_1 : Fe Tryz.prog 119 1 1 false 1 := ⟨4, by kernel_rfl, by kernel_rfl, by kernel_rfl⟩
theorem f72_1 : Fe Tryz.prog 72 1 1 false 1 := ⟨4, by kernel_rfl, by kernel_rfl, by kernel_rfl⟩
theorem g38 : elOf Tryz.prog 38 = some 5 ∧ szOf Tryz.prog 5 = some 1 ∧ bytOf Tryz.prog 5 = some 1 ∧ ∃ zs, zcells Tryz.prog 5 = some zs ∧ zs.length = 1 := ⟨by kernel_rfl, by kernel_rfl, by kernel_rfl, [.val (.int .u8 0)], by kernel_rfl, rfl⟩
end Go.Ka.Tryz
