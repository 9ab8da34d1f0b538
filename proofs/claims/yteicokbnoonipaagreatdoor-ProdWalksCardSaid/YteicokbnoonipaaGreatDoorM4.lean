/- Texts of this claim, put together: RfNfa, Nf, NfMath, NfM, NfN, NfT, NfW, NfX, NfR, NfY, NfA, NfB, NfC, NfBd, NfBw, RfDf, Df, DfK, ClLow, SbMath, ClMay, RfSb, Sb, RfL12, L12a, PdMath. -/
import Derived.Test.YteicokbnoonipaaGreatDoorM3
import Derived.Test.YteicokbnoonipaaGreatDoorProg
import Derived.KernelRfl
namespace Hk
open Go Go.Proofs
set_option maxRecDepth 100000
def rf117 : RFn := ⟨2, 24, [.tmp 4], .seq (.ops [D 4 (.mov (.c (.isl 0 [] (some 0))))])
(.seq (.ops [D 6 (.mov 0),
D 7 (.len 6),
D 8 (.mov 0),
D 9 (.len 8),
D 10 (.mov 1),
D 11 (.len 10),
D 12 (.bin .add 9 11),
D 13 (.mksl [(.int .i64 0)] 1 8 7 12),
D 5 (.mov 13)])
(.seq (.ops [D 14 (.mov 5),
D 15 (.mov 0),
D 16 (.copy 14 15 1)])
(.seq (.ops [D 17 (.mov 5),
D 18 (.mov 1),
D 19 (.app 17 18 1 8),
D 5 (.mov 19)])
(.seq (.ops [D 20 (.mov 5),
D 21 (.call 96 [20])])
(.seq (.ops [D 22 (.mov 5),
D 23 (.call 176 [22]),
D 4 (.mov 23)])
(.ret))))))⟩
theorem rf117_eq : cfnAt Tryz.prog 117 [] = some rf117 := by kernel_rfl
def rf171 : RFn := ⟨1, 11, [.tmp 2], .seq (.ops [D 1 (.box false 0 8),
D 2 (.mov (I 0))])
(.seq (.seq (.ops [D 3 (.fadr 1 7),
D 4 (.load 3 1 false),
D 5 (.bin .lss 4 (I 0))])
(.cond 5 (.seq (.ops [D 6 (.fadr 1 6),
D 7 (.load 6 1 false),
D 8 (.mm true 7 (I 1)),
D 2 (.mov 8)])
(.ret)) (.skip)))
(.seq (.ops [D 9 (.fadr 1 7),
D 10 (.load 9 1 false),
D 2 (.mov 10)])
(.ret)))⟩
theorem rf171_eq : cfnAt Tryz.prog 171 [] = some rf171 := by kernel_rfl
def rf115 : RFn := ⟨1, 31, [.tmp 2], .seq (.ops [D 1 (.box false 0 8),
D 2 (.mov (I 0))])
(.seq (.seq (.ops [D 6 (.fadr 1 0),
D 7 (.load 6 1 false),
D 8 (.bin .eql 7 (I 1))])
(.cond 8 (.seq (.ops [D 2 (.mov (I 1))])
(.ret)) (.skip)))
(.seq (.ops [D 3 (.mov (I 0))])
(.seq (.seq (.ops [D 9 (.fadr 1 5),
D 10 (.load 9 1 false),
D 11 (.len 10),
D 12 (.mov (I 0))])
(.block 0 (.loop [1, 3, 10, 11, 12] (.seq (.ops [D 13 (.bin .lss 12 11)])
(.seq (.cond 13 (.skip) (.exit 0))
(.seq (.block 1 (.seq (.ops [D 14 (.idxS 10 12 8),
D 15 (.load 14 8 true),
D 5 (.alloc false [(.int .i64 0), (.int .u64 0), (.int .u64 0), (.int .u64 0), (.int .u64 0), (.isl 0 [] (some 0)), (.int .i64 0), (.int .i64 0)]),
N (.store 5 15 8)])
(.ops [D 16 (.mov 3),
D 17 (.load 5 8 true),
D 18 (.call 115 [17]),
D 19 (.bin .add 16 18),
D 20 (.mm false 19 (I 1000000)),
D 3 (.mov 20)])))
(.ops [D 21 (.bin .add 12 (I 1)),
D 12 (.mov 21)])))))))
(.seq (.seq (.ops [D 22 (.fadr 1 0),
D 23 (.load 22 1 false),
D 24 (.bin .eql 23 (I 4))])
(.cond 24 (.ops [D 25 (.mov 3),
D 26 (.load 1 8 true),
D 27 (.call 171 [26]),
D 28 (.bin .mul 25 27),
D 29 (.mm false 28 (I 1000000)),
D 3 (.mov 29)]) (.skip)))
(.seq (.ops [D 30 (.mov 3),
D 2 (.mov 30)])
(.ret))))))⟩
theorem rf115_eq : cfnAt Tryz.prog 115 [[1, 3, 10, 11, 12]] = some rf115 := by kernel_rfl
def rf228 : RFn := ⟨1, 6, [.cell 2 3 true], .seq (.ops [D 1 (.box false 0 8),
D 2 (.alloc false [(.isl 0 [] (some 0)), (.isl 0 [] (some 0)), (.b false)])])
(.seq (.ops [D 3 (.load 1 8 true),
D 4 (.call 258 [3]),
D 5 (.build [(.isl 0 [] (some 0)), (.isl 0 [] (some 0)), (.b false)] [(2, 1, 4)]),
N (.store 2 5 3)])
(.ret))⟩
theorem rf228_eq : cfnAt Tryz.prog 228 [] = some rf228 := by kernel_rfl
def rf44 : RFn := ⟨1, 103, [.cell 2 6 true, .tmp 3], .seq (.ops [D 2 (.alloc false [(.isl 0 [] (some 0)), (.isl 0 [] (some 0)), (.isl 0 [] (some 0)), (.isl 0 [] (some 0)), (.isl 0 [] (some 0)), (.int .i64 0)]),
D 3 (.mov (I 0))])
(.seq (.seq (.ops [D 13 (.mov 0),
D 14 (.len 13),
D 15 (.bin .lss 14 (I 1)),
D 16 (.mov 15),
Z 16 17 (.mov 0),
Z 16 18 (.len 17),
Z 16 19 (.bin .gtr 18 (I 40)),
D 20 (.pick 16 TT 19),
D 21 (.mov 20),
Z 21 22 (.mov 0),
Z 21 23 (.call 112 [22, (.c (.fn 113 [] []))]),
D 24 (.pick 21 TT 23)])
(.cond 24 (.seq (.ops [D 25 (.build [(.isl 0 [] (some 0)), (.isl 0 [] (some 0)), (.isl 0 [] (some 0)), (.isl 0 [] (some 0)), (.isl 0 [] (some 0)), (.int .i64 0)] []),
N (.store 2 25 6),
D 3 (.mov (I 1))])
(.ret)) (.skip)))
(.seq (.ops [D 4 (.mov (I 0))])
(.seq (.seq (.ops [D 26 (.mov 0),
D 27 (.len 26),
D 28 (.mov (I 0))])
(.block 0 (.loop [0, 2, 4, 26, 27, 28, 86, 87, 88, 89, 90, 91] (.seq (.ops [D 29 (.bin .lss 28 27)])
(.seq (.cond 29 (.skip) (.exit 0))
(.seq (.block 1 (.seq (.ops [D 30 (.idxS 26 28 8),
D 31 (.load 30 8 true),
D 6 (.alloc false [(.int .i64 0), (.int .u64 0), (.int .u64 0), (.int .u64 0), (.int .u64 0), (.isl 0 [] (some 0)), (.int .i64 0), (.int .i64 0)]),
N (.store 6 31 8)])
(.ops [D 32 (.mov 4),
D 33 (.load 6 8 true),
D 34 (.call 115 [33]),
D 35 (.bin .add 32 34),
D 4 (.mov 35)])))
(.ops [D 36 (.bin .add 28 (I 1)),
D 28 (.mov 36)])))))))
(.seq (.seq (.ops [D 37 (.mov 4),
D 38 (.bin .gtr 37 (I 2000))])
(.cond 38 (.seq (.ops [D 39 (.build [(.isl 0 [] (some 0)), (.isl 0 [] (some 0)), (.isl 0 [] (some 0)), (.isl 0 [] (some 0)), (.isl 0 [] (some 0)), (.int .i64 0)] []),
N (.store 2 39 6),
D 3 (.mov (I 4))])
(.ret)) (.skip)))
(.seq (.ops [D 40 (.build [(.isl 0 [] (some 0)), (.isl 0 [] (some 0)), (.isl 0 [] (some 0)), (.isl 0 [] (some 0)), (.isl 0 [] (some 0)), (.int .i64 0)] [(5, 1, (I (-1)))]),
D 41 (.build [(.isl 0 [] (some 0)), (.isl 0 [] (some 0)), (.isl 0 [] (some 0)), (.isl 0 [] (some 0)), (.isl 0 [] (some 0)), (.int .i64 0)] [(0, 6, 40)]),
D 42 (.box false 41 6),
D 7 (.mov 42)])
(.seq (.seq (.ops [D 43 (.mov 0),
D 44 (.len 43),
D 45 (.mov (I 0))])
(.block 2 (.loop [2, 7, 43, 44, 45, 86, 87, 88, 89, 90, 91] (.seq (.ops [D 46 (.bin .lss 45 44)])
(.seq (.cond 46 (.skip) (.exit 2))
(.seq (.block 3 (.seq (.ops [D 47 (.mov 45),
D 48 (.idxS 43 45 8),
D 49 (.load 48 8 true),
D 9 (.alloc false [(.int .i64 0), (.int .u64 0), (.int .u64 0), (.int .u64 0), (.int .u64 0), (.isl 0 [] (some 0)), (.int .i64 0), (.int .i64 0)]),
D 8 (.mov 47),
N (.store 9 49 8)])
(.seq (.ops [D 50 (.mov 7),
D 51 (.load 9 8 true),
D 52 (.mov 8),
D 53 (.call 116 [50, 51, 52]),
D 10 (.alloc false [(.isl 0 [] (some 0)), (.isl 0 [] (some 0)), (.b false)]),
N (.store 10 53 3)])
(.seq (.draw (.take (D 54 (.mov 7))<|
.take (D 55 (.mov 7))<|
.take (D 56 (.nilchk 55))<|
.take (D 57 (.fadr 56 0))<|
.take (D 58 (.fadr 57 2))<|
.take (D 59 (.load 58 1 false))<|
.take (D 60 (.fadr 10 0))<|
.take (D 61 (.fadr 60 0))<|
.take (D 62 (.load 61 1 false))<|
.alt (D 63 (.call 117 [59, 62])) true (.take (D 64 (.nilchk 54))<|
.take (D 65 (.fadr 64 0))<|
.take (D 66 (.fadr 65 2))<|
.alt (N (.store 66 63 1)) true (.done)
(.noalt))
(.noalt)))
(.seq (.seq (.ops [D 67 (.fadr 10 0),
D 68 (.fadr 67 1),
D 69 (.load 68 1 false),
D 70 (.len 69),
D 71 (.mov (I 0))])
(.block 4 (.loop [2, 7, 8, 10, 43, 44, 45, 69, 70, 71, 86, 87, 88, 89, 90, 91] (.seq (.ops [D 72 (.bin .lss 71 70)])
(.seq (.cond 72 (.skip) (.exit 4))
(.seq (.block 5 (.seq (.ops [D 73 (.idxS 69 71 1),
D 74 (.load 73 1 false),
D 12 (.mov 74)])
(.ops [D 75 (.mov 7),
D 76 (.nilchk 75),
D 77 (.fadr 76 0),
D 78 (.fadr 77 4),
D 79 (.load 78 1 false),
D 80 (.mov 12),
D 81 (.idxS 79 80 1),
N (.store 81 TT 1)])))
(.ops [D 82 (.bin .add 71 (I 1)),
D 71 (.mov 82)])))))))
(.seq (.ops [D 83 (.fadr 10 2),
D 84 (.load 83 1 false),
D 85 (.mov 84),
Y 85 86 (.mov 7),
Y 85 87 (.nilchk 86),
Y 85 88 (.fadr 87 0),
Y 85 89 (.fadr 88 5),
Y 85 90 (.load 89 1 false),
Y 85 91 (.bin .lss 90 (I 0)),
D 92 (.pick 85 91 FF)])
(.cond 92 (.ops [D 93 (.mov 7),
D 94 (.mov 8),
D 95 (.nilchk 93),
D 96 (.fadr 95 0),
D 97 (.fadr 96 5),
N (.store 97 94 1)]) (.skip))))))))
(.ops [D 98 (.bin .add 45 (I 1)),
D 45 (.mov 98)])))))))
(.seq (.ops [D 99 (.mov 7),
D 100 (.nilchk 99),
D 101 (.fadr 100 0),
D 102 (.load 101 6 true),
N (.store 2 102 6),
D 3 (.mov (I 0))])
(.ret))))))))⟩
theorem rf44_eq : cfnAt Tryz.prog 44 [[0, 2, 4, 26, 27, 28, 86, 87, 88, 89, 90, 91], [2, 7, 43, 44, 45, 86, 87, 88, 89, 90, 91], [2, 7, 8, 10, 43, 44, 45, 69, 70, 71, 86, 87, 88, 89, 90, 91]] = some rf44 := by kernel_rfl
def rf113 : RFn := ⟨1, 6, [.tmp 2], .seq (.ops [D 1 (.box false 0 8),
D 2 (.mov FF)])
(.seq (.ops [D 3 (.load 1 8 true),
D 4 (.call 114 [3]),
D 5 (.un .not 4),
D 2 (.mov 5)])
(.ret))⟩
theorem rf113_eq : cfnAt Tryz.prog 113 [] = some rf113 := by kernel_rfl
def rf172 : RFn := ⟨3, 66, [.cell 6 3 true], .seq (.ops [D 4 (.box true 1 4),
D 6 (.alloc false [(.isl 0 [] (some 0)), (.isl 0 [] (some 0)), (.b false)])])
(.seq (.ops [D 8 (.mov 0),
D 9 (.nilchk 8),
D 10 (.fadr 9 0),
D 11 (.fadr 10 0),
D 12 (.load 11 1 false),
D 13 (.len 12),
D 7 (.mov 13)])
(.seq (.draw (.take (D 14 (.mov 0))<|
.take (D 15 (.mov 0))<|
.take (D 16 (.nilchk 15))<|
.take (D 17 (.fadr 16 0))<|
.take (D 18 (.fadr 17 0))<|
.take (D 19 (.load 18 1 false))<|
.take (D 20 (.load 4 4 true))<|
.alt (D 21 (.bslice 4 [20])) false (.alt (D 22 (.app 19 21 4 32)) true (.take (D 23 (.nilchk 14))<|
.take (D 24 (.fadr 23 0))<|
.take (D 25 (.fadr 24 0))<|
.alt (N (.store 25 22 1)) true (.done)
(.noalt))
(.noalt))
(.noalt)))
(.seq (.ops [D 26 (.mov 0),
D 27 (.mov 0),
D 28 (.nilchk 27),
D 29 (.fadr 28 0),
D 30 (.fadr 29 1),
D 31 (.load 30 1 false),
D 32 (.mov 2),
D 33 (.bslice 1 [32]),
D 34 (.app 31 33 1 8),
D 35 (.nilchk 26),
D 36 (.fadr 35 0),
D 37 (.fadr 36 1),
N (.store 37 34 1)])
(.seq (.ops [D 38 (.mov 0),
D 39 (.mov 0),
D 40 (.nilchk 39),
D 41 (.fadr 40 0),
D 42 (.fadr 41 3),
D 43 (.load 42 1 false),
D 44 (.bslice 1 [(.c (.isl 0 [] (some 0)))]),
D 45 (.app 43 44 1 24),
D 46 (.nilchk 38),
D 47 (.fadr 46 0),
D 48 (.fadr 47 3),
N (.store 48 45 1)])
(.seq (.ops [D 49 (.mov 0),
D 50 (.mov 0),
D 51 (.nilchk 50),
D 52 (.fadr 51 0),
D 53 (.fadr 52 4),
D 54 (.load 53 1 false),
D 55 (.bslice 1 [FF]),
D 56 (.app 54 55 1 1),
D 57 (.nilchk 49),
D 58 (.fadr 57 0),
D 59 (.fadr 58 4),
N (.store 59 56 1)])
(.seq (.ops [D 60 (.mov 7),
D 61 (.bslice 1 [60]),
D 62 (.mov 7),
D 63 (.bslice 1 [62]),
D 64 (.build [(.isl 0 [] (some 0)), (.isl 0 [] (some 0))] [(0, 1, 61), (1, 1, 63)]),
D 65 (.build [(.isl 0 [] (some 0)), (.isl 0 [] (some 0)), (.b false)] [(0, 2, 64)]),
N (.store 6 65 3)])
(.ret)))))))⟩
theorem rf172_eq : cfnAt Tryz.prog 172 [] = some rf172 := by kernel_rfl
def rf227 : RFn := ⟨3, 32, [], .seq (.ops [D 8 (.mov 1),
D 9 (.len 8),
D 10 (.mov (I 0))])
(.block 0 (.loop [0, 2, 8, 9, 10] (.seq (.ops [D 11 (.bin .lss 10 9)])
(.seq (.cond 11 (.skip) (.exit 0))
(.seq (.block 1 (.seq (.ops [D 12 (.idxS 8 10 1),
D 13 (.load 12 1 false),
D 7 (.mov 13)])
(.draw (.take (D 14 (.mov 0))<|
.take (D 15 (.nilchk 14))<|
.take (D 16 (.fadr 15 0))<|
.take (D 17 (.fadr 16 3))<|
.take (D 18 (.load 17 1 false))<|
.take (D 19 (.mov 7))<|
.take (D 20 (.mov 0))<|
.take (D 21 (.nilchk 20))<|
.take (D 22 (.fadr 21 0))<|
.take (D 23 (.fadr 22 3))<|
.take (D 24 (.load 23 1 false))<|
.take (D 25 (.mov 7))<|
.take (D 26 (.idxS 24 25 1))<|
.take (D 27 (.load 26 1 false))<|
.take (D 28 (.mov 2))<|
.alt (D 29 (.call 117 [27, 28])) false (.take (D 30 (.idxS 18 19 1))<|
.alt (N (.store 30 29 1)) true (.done)
(.noalt))
(.noalt)))))
(.ops [D 31 (.bin .add 10 (I 1)),
D 10 (.mov 31)]))))))⟩
theorem rf227_eq : cfnAt Tryz.prog 227 [[0, 2, 8, 9, 10]] = some rf227 := by kernel_rfl
def rf174 : RFn := ⟨3, 56, [.cell 6 3 true], .seq (.ops [D 4 (.box false 1 3),
D 5 (.box false 2 3),
D 6 (.alloc false [(.isl 0 [] (some 0)), (.isl 0 [] (some 0)), (.b false)])])
(.seq (.ops [D 8 (.mov 0),
D 9 (.fadr 4 0),
D 10 (.fadr 9 1),
D 11 (.load 10 1 false),
D 12 (.fadr 5 0),
D 13 (.fadr 12 0),
D 14 (.load 13 1 false),
D 15 (.call 227 [8, 11, 14])])
(.seq (.ops [D 16 (.fadr 4 2),
D 17 (.load 16 1 false),
D 18 (.mov 17),
Y 18 19 (.fadr 5 2),
Y 18 20 (.load 19 1 false),
D 21 (.pick 18 20 FF),
D 22 (.build [(.isl 0 [] (some 0)), (.isl 0 [] (some 0)), (.b false)] [(2, 1, 21)]),
D 7 (.alloc false [(.isl 0 [] (some 0)), (.isl 0 [] (some 0)), (.b false)]),
N (.store 7 22 3)])
(.seq (.draw (.take (D 23 (.fadr 4 0))<|
.take (D 24 (.fadr 23 0))<|
.take (D 25 (.load 24 1 false))<|
.take (D 26 (.fadr 5 0))<|
.take (D 27 (.fadr 26 1))<|
.take (D 29 (.fadr 7 0))<|
.take (D 30 (.fadr 29 0))<|
.alt (D 28 (.load 27 1 false)) false (.alt (N (.store 30 25 1)) true (.take (D 31 (.fadr 7 0))<|
.take (D 32 (.fadr 31 1))<|
.alt (N (.store 32 28 1)) true (.done)
(.noalt))
(.noalt))
(.alt (N (.store 30 25 1)) true (.alt (D 28 (.load 27 1 false)) false (.take (D 31 (.fadr 7 0))<|
.take (D 32 (.fadr 31 1))<|
.alt (N (.store 32 28 1)) true (.done)
(.noalt))
(.noalt))
(.noalt))))
(.seq (.seq (.ops [D 33 (.fadr 4 2),
D 34 (.load 33 1 false)])
(.cond 34 (.ops [D 35 (.fadr 7 0),
D 36 (.fadr 35 0),
D 37 (.load 36 1 false),
D 38 (.fadr 5 0),
D 39 (.fadr 38 0),
D 40 (.load 39 1 false),
D 41 (.call 117 [37, 40]),
D 42 (.fadr 7 0),
D 43 (.fadr 42 0),
N (.store 43 41 1)]) (.skip)))
(.seq (.seq (.ops [D 44 (.fadr 5 2),
D 45 (.load 44 1 false)])
(.cond 45 (.ops [D 46 (.fadr 7 0),
D 47 (.fadr 46 1),
D 48 (.load 47 1 false),
D 49 (.fadr 4 0),
D 50 (.fadr 49 1),
D 51 (.load 50 1 false),
D 52 (.call 117 [48, 51]),
D 53 (.fadr 7 0),
D 54 (.fadr 53 1),
N (.store 54 52 1)]) (.skip)))
(.seq (.ops [D 55 (.load 7 3 true),
N (.store 6 55 3)])
(.ret)))))))⟩
theorem rf174_eq : cfnAt Tryz.prog 174 [] = some rf174 := by kernel_rfl
def rf116 : RFn := ⟨3, 75, [.cell 6 3 true], .seq (.ops [D 4 (.box false 1 8),
D 6 (.alloc false [(.isl 0 [] (some 0)), (.isl 0 [] (some 0)), (.b false)])])
(.seq (.seq (.ops [D 14 (.fadr 4 0),
D 15 (.load 14 1 false)])
(.block 0 (.seq (.ops [D 17 (.bin .eql 15 (I 1)),
D 16 (.mov 17)])
(.cond 16 (.seq (.ops [D 18 (.mov 0),
D 19 (.fadr 4 1),
D 20 (.load 19 4 true),
D 21 (.mov 2),
D 22 (.call 172 [18, 20, 21]),
N (.store 6 22 3)])
(.ret)) (.seq (.ops [D 24 (.bin .eql 15 (I 3)),
D 23 (.mov 24)])
(.cond 23 (.seq (.ops [D 7 (.alloc false [(.isl 0 [] (some 0)), (.isl 0 [] (some 0)), (.b false)])])
(.seq (.seq (.ops [D 25 (.fadr 4 5),
D 26 (.load 25 1 false),
D 27 (.len 26),
D 28 (.mov (I 0))])
(.block 1 (.loop [0, 2, 6, 7, 26, 27, 28, 43, 44] (.seq (.ops [D 29 (.bin .lss 28 27)])
(.seq (.cond 29 (.skip) (.exit 1))
(.seq (.block 2 (.seq (.ops [D 30 (.idxS 26 28 8),
D 31 (.load 30 8 true),
D 9 (.alloc false [(.int .i64 0), (.int .u64 0), (.int .u64 0), (.int .u64 0), (.int .u64 0), (.isl 0 [] (some 0)), (.int .i64 0), (.int .i64 0)]),
N (.store 9 31 8)])
(.seq (.ops [D 32 (.mov 0),
D 33 (.load 9 8 true),
D 34 (.mov 2),
D 35 (.call 116 [32, 33, 34]),
D 10 (.alloc false [(.isl 0 [] (some 0)), (.isl 0 [] (some 0)), (.b false)]),
N (.store 10 35 3)])
(.seq (.ops [D 36 (.fadr 7 0),
D 37 (.fadr 10 0),
D 38 (.load 37 2 true),
D 39 (.call 173 [36, 38])])
(.ops [D 40 (.fadr 7 2),
D 41 (.load 40 1 false),
D 42 (.mov 41),
Z 42 43 (.fadr 10 2),
Z 42 44 (.load 43 1 false),
D 45 (.pick 42 TT 44),
D 46 (.fadr 7 2),
N (.store 46 45 1)])))))
(.ops [D 47 (.bin .add 28 (I 1)),
D 28 (.mov 47)])))))))
(.seq (.ops [D 48 (.load 7 3 true),
N (.store 6 48 3)])
(.ret)))) (.seq (.ops [D 50 (.bin .eql 15 (I 2)),
D 49 (.mov 50)])
(.cond 49 (.seq (.ops [D 51 (.build [(.isl 0 [] (some 0)), (.isl 0 [] (some 0)), (.b false)] [(2, 1, TT)]),
D 11 (.alloc false [(.isl 0 [] (some 0)), (.isl 0 [] (some 0)), (.b false)]),
N (.store 11 51 3)])
(.seq (.seq (.ops [D 52 (.fadr 4 5),
D 53 (.load 52 1 false),
D 54 (.len 53),
D 55 (.mov (I 0))])
(.block 3 (.loop [0, 2, 6, 11, 53, 54, 55] (.seq (.ops [D 56 (.bin .lss 55 54)])
(.seq (.cond 56 (.skip) (.exit 3))
(.seq (.block 4 (.seq (.ops [D 57 (.idxS 53 55 8),
D 58 (.load 57 8 true),
D 13 (.alloc false [(.int .i64 0), (.int .u64 0), (.int .u64 0), (.int .u64 0), (.int .u64 0), (.isl 0 [] (some 0)), (.int .i64 0), (.int .i64 0)]),
N (.store 13 58 8)])
(.draw (.take (D 59 (.mov 0))<|
.take (D 61 (.mov 0))<|
.take (D 62 (.load 13 8 true))<|
.take (D 63 (.mov 2))<|
.alt (D 60 (.load 11 3 true)) false (.alt (D 64 (.call 116 [61, 62, 63])) true (.alt (D 65 (.call 174 [59, 60, 64])) true (.alt (N (.store 11 65 3)) true (.done)
(.noalt))
(.noalt))
(.noalt))
(.alt (D 64 (.call 116 [61, 62, 63])) true (.alt (D 60 (.load 11 3 true)) false (.alt (D 65 (.call 174 [59, 60, 64])) true (.alt (N (.store 11 65 3)) true (.done)
(.noalt))
(.noalt))
(.noalt))
(.noalt))))))
(.ops [D 66 (.bin .add 55 (I 1)),
D 55 (.mov 66)])))))))
(.seq (.ops [D 67 (.load 11 3 true),
N (.store 6 67 3)])
(.ret)))) (.seq (.ops [D 69 (.bin .eql 15 (I 4)),
D 68 (.mov 69)])
(.cond 68 (.seq (.ops [D 70 (.mov 0),
D 71 (.load 4 8 true),
D 72 (.mov 2),
D 73 (.call 175 [70, 71, 72]),
N (.store 6 73 3)])
(.ret)) (.skip)))))))))))
(.seq (.ops [D 74 (.build [(.isl 0 [] (some 0)), (.isl 0 [] (some 0)), (.b false)] [(2, 1, TT)]),
N (.store 6 74 3)])
(.ret)))⟩
theorem rf116_eq : cfnAt Tryz.prog 116 [[0, 2, 6, 7, 26, 27, 28, 43, 44], [0, 2, 6, 11, 53, 54, 55]] = some rf116 := by kernel_rfl
def rf175 : RFn := ⟨3, 124, [.cell 6 3 true], .seq (.ops [D 4 (.box false 1 8),
D 6 (.alloc false [(.isl 0 [] (some 0)), (.isl 0 [] (some 0)), (.b false)])])
(.seq (.seq (.ops [D 16 (.load 4 8 true),
D 17 (.call 115 [16]),
D 18 (.bin .eql 17 (I 0))])
(.cond 18 (.seq (.ops [D 19 (.load 4 8 true),
D 20 (.call 228 [19]),
N (.store 6 20 3)])
(.ret)) (.skip)))
(.seq (.ops [D 7 (.mov (.c (.isl 0 [] (some 0))))])
(.seq (.seq (.ops [D 21 (.load 4 8 true),
D 22 (.call 171 [21]),
D 23 (.mov (I 0))])
(.block 0 (.loop [0, 2, 4, 6, 7, 22, 23, 64, 65, 66] (.seq (.ops [D 24 (.bin .lss 23 22)])
(.seq (.cond 24 (.skip) (.exit 0))
(.seq (.block 1 (.ops [D 25 (.mov 7),
D 26 (.mov 0),
D 27 (.fadr 4 5),
D 28 (.load 27 1 false),
D 29 (.idxS 28 (I 0) 8),
D 30 (.load 29 8 true),
D 31 (.mov 2),
D 32 (.call 116 [26, 30, 31]),
D 33 (.bslice 3 [32]),
D 34 (.app 25 33 3 56),
D 7 (.mov 34)]))
(.ops [D 35 (.bin .add 23 (I 1)),
D 23 (.mov 35)])))))))
(.seq (.ops [D 36 (.mov 7),
D 37 (.len 36),
D 38 (.bin .sub 37 (I 1)),
D 8 (.mov 38)])
(.seq (.seq (.ops [D 39 (.fadr 4 7),
D 40 (.load 39 1 false),
D 41 (.bin .lss 40 (I 0))])
(.cond 41 (.seq (.draw (.take (D 42 (.mov 0))<|
.take (D 43 (.mov 7))<|
.take (D 44 (.mov 8))<|
.take (D 45 (.idxS 43 44 3))<|
.take (D 46 (.fadr 45 0))<|
.take (D 47 (.fadr 46 1))<|
.take (D 48 (.load 47 1 false))<|
.take (D 49 (.mov 7))<|
.take (D 50 (.mov 8))<|
.take (D 51 (.idxS 49 50 3))<|
.take (D 52 (.fadr 51 0))<|
.take (D 53 (.fadr 52 0))<|
.take (D 54 (.load 53 1 false))<|
.alt (D 55 (.call 227 [42, 48, 54])) true (.done)
(.noalt)))
(.ops [D 56 (.mov 7),
D 57 (.mov 8),
D 58 (.mov 7),
D 59 (.mov 8),
D 60 (.idxS 58 59 3),
D 61 (.fadr 60 2),
D 62 (.load 61 1 false),
D 63 (.mov 62),
Z 63 64 (.fadr 4 6),
Z 63 65 (.load 64 1 false),
Z 63 66 (.bin .eql 65 (I 0)),
D 67 (.pick 63 TT 66),
D 68 (.idxS 56 57 3),
D 69 (.fadr 68 2),
N (.store 69 67 1)])) (.skip)))
(.seq (.draw (.take (D 70 (.mov 7))<|
.take (D 71 (.fadr 4 6))<|
.take (D 72 (.load 71 1 false))<|
.take (D 73 (.mov 7))<|
.take (D 74 (.len 73))<|
.take (D 75 (.mm false 72 74))<|
.take (D 76 (.fadr 4 6))<|
.take (D 77 (.load 76 1 false))<|
.take (D 78 (.mov 7))<|
.take (D 79 (.len 78))<|
.take (D 80 (.mm false 77 79))<|
.take (D 81 (.slcS 70 none (some 75) (some 80) 3))<|
.take (D 82 (.mov 7))<|
.take (D 83 (.fadr 4 6))<|
.take (D 84 (.load 83 1 false))<|
.take (D 85 (.mov 7))<|
.take (D 86 (.len 85))<|
.take (D 87 (.mm false 84 86))<|
.take (D 88 (.slcS 82 (some 87) none none 3))<|
.take (D 9 (.mov 81))<|
.take (D 10 (.mov 88))<|
.done))
(.seq (.ops [D 11 (.alloc false [(.isl 0 [] (some 0)), (.isl 0 [] (some 0)), (.b false)])])
(.seq (.ops [D 89 (.fadr 11 2),
N (.store 89 TT 1)])
(.seq (.seq (.ops [D 90 (.mov 10),
D 91 (.len 90),
D 92 (.mov (I 0))])
(.block 2 (.loop [0, 6, 9, 10, 11, 91, 92] (.seq (.ops [D 93 (.bin .lss 92 91)])
(.seq (.cond 93 (.skip) (.exit 2))
(.seq (.block 3 (.seq (.ops [D 94 (.mov 92),
D 12 (.mov 94)])
(.seq (.draw (.take (D 95 (.mov 0))<|
.take (D 96 (.mov 10))<|
.take (D 97 (.mov 10))<|
.take (D 98 (.len 97))<|
.take (D 99 (.bin .sub 98 (I 1)))<|
.take (D 100 (.mov 12))<|
.take (D 101 (.bin .sub 99 100))<|
.take (D 102 (.idxS 96 101 3))<|
.take (D 103 (.load 102 3 true))<|
.take (D 104 (.load 11 3 true))<|
.alt (D 105 (.call 174 [95, 103, 104])) true (.alt (N (.store 11 105 3)) true (.done)
(.noalt))
(.noalt)))
(.ops [D 106 (.fadr 11 2),
N (.store 106 TT 1)]))))
(.ops [D 107 (.bin .add 92 (I 1)),
D 92 (.mov 107)])))))))
(.seq (.ops [D 108 (.build [(.isl 0 [] (some 0)), (.isl 0 [] (some 0)), (.b false)] [(2, 1, TT)]),
D 13 (.alloc false [(.isl 0 [] (some 0)), (.isl 0 [] (some 0)), (.b false)]),
N (.store 13 108 3)])
(.seq (.seq (.ops [D 109 (.mov 9),
D 110 (.len 109),
D 111 (.mov (I 0))])
(.block 4 (.loop [0, 6, 11, 13, 109, 110, 111] (.seq (.ops [D 112 (.bin .lss 111 110)])
(.seq (.cond 112 (.skip) (.exit 4))
(.seq (.block 5 (.seq (.ops [D 113 (.idxS 109 111 3),
D 114 (.load 113 3 true),
D 15 (.alloc false [(.isl 0 [] (some 0)), (.isl 0 [] (some 0)), (.b false)]),
N (.store 15 114 3)])
(.ops [D 115 (.mov 0),
D 116 (.load 13 3 true),
D 117 (.load 15 3 true),
D 118 (.call 174 [115, 116, 117]),
N (.store 13 118 3)])))
(.ops [D 119 (.bin .add 111 (I 1)),
D 111 (.mov 119)])))))))
(.seq (.ops [D 120 (.mov 0),
D 121 (.load 13 3 true),
D 122 (.load 11 3 true),
D 123 (.call 174 [120, 121, 122]),
N (.store 6 123 3)])
(.ret)))))))))))))⟩
theorem rf175_eq : cfnAt Tryz.prog 175 [[0, 2, 4, 6, 7, 22, 23, 64, 65, 66], [0, 6, 9, 10, 11, 91, 92], [0, 6, 11, 13, 109, 110, 111]] = some rf175 := by kernel_rfl
def rf173 : RFn := ⟨2, 24, [], .seq (.ops [D 3 (.box false 1 2)])
(.seq (.draw (.take (D 4 (.mov 0))<|
.take (D 5 (.mov 0))<|
.take (D 6 (.nilchk 5))<|
.take (D 7 (.fadr 6 0))<|
.take (D 8 (.load 7 1 false))<|
.take (D 9 (.fadr 3 0))<|
.take (D 10 (.load 9 1 false))<|
.alt (D 11 (.call 117 [8, 10])) true (.take (D 12 (.nilchk 4))<|
.take (D 13 (.fadr 12 0))<|
.alt (N (.store 13 11 1)) true (.done)
(.noalt))
(.noalt)))
(.draw (.take (D 14 (.mov 0))<|
.take (D 15 (.mov 0))<|
.take (D 16 (.nilchk 15))<|
.take (D 17 (.fadr 16 1))<|
.take (D 18 (.load 17 1 false))<|
.take (D 19 (.fadr 3 1))<|
.take (D 20 (.load 19 1 false))<|
.alt (D 21 (.call 117 [18, 20])) true (.take (D 22 (.nilchk 14))<|
.take (D 23 (.fadr 22 1))<|
.alt (N (.store 23 21 1)) true (.done)
(.noalt))
(.noalt))))⟩
theorem rf173_eq : cfnAt Tryz.prog 173 [] = some rf173 := by kernel_rfl
def rf177 : RFn := ⟨2, 37, [.tmp 4], .seq (.ops [D 2 (.box false 0 6),
D 4 (.mov FF)])
(.seq (.seq (.ops [D 7 (.mov 1),
D 8 (.len 7),
D 9 (.mov (I 0))])
(.block 0 (.loop [1, 2, 7, 8, 9, 17, 18, 19, 20, 21, 24, 25, 26, 27, 28, 29, 30, 31, 32, 33, 34] (.seq (.ops [D 10 (.bin .lss 9 8)])
(.seq (.cond 10 (.skip) (.exit 0))
(.seq (.block 1 (.seq (.ops [D 11 (.mov 9),
D 12 (.idxS 7 9 1),
D 13 (.load 12 1 false),
D 5 (.mov 11),
D 6 (.mov 13)])
(.seq (.ops [D 14 (.mov 6),
D 15 (.bin .lss 14 (I 0)),
D 16 (.mov 15),
Z 16 17 (.mov 6),
Z 16 18 (.fadr 2 0),
Z 16 19 (.load 18 1 false),
Z 16 20 (.len 19),
Z 16 21 (.bin .geq 17 20),
D 22 (.pick 16 TT 21),
D 23 (.mov 22),
Z 23 24 (.mov 5),
Z 23 25 (.bin .gtr 24 (I 0)),
Z 23 26 (.mov 25),
Y 26 27 (.mov 6),
Y 26 28 (.mov 1),
Y 26 29 (.mov 5),
Y 26 30 (.bin .sub 29 (I 1)),
Y 26 31 (.idxS 28 30 1),
Y 26 32 (.load 31 1 false),
Y 26 33 (.bin .leq 27 32),
Z 23 34 (.pick 26 33 FF),
D 35 (.pick 23 TT 34)])
(.cond 35 (.seq (.ops [D 4 (.mov FF)])
(.ret)) (.skip)))))
(.ops [D 36 (.bin .add 9 (I 1)),
D 9 (.mov 36)])))))))
(.seq (.ops [D 4 (.mov TT)])
(.ret)))⟩
theorem rf177_eq : cfnAt Tryz.prog 177 [[1, 2, 7, 8, 9, 17, 18, 19, 20, 21, 24, 25, 26, 27, 28, 29, 30, 31, 32, 33, 34]] = some rf177 := by kernel_rfl
def rf181 : RFn := ⟨3, 11, [.tmp 6], .seq (.ops [D 3 (.box false 0 6),
D 5 (.box false 2 1),
D 6 (.mov (.c (.isl 0 [] (some 0))))])
(.seq (.ops [D 7 (.mov 1),
D 8 (.call 94 [7]),
D 9 (.mkfn 230 [] [3, 5]),
D 10 (.call 93 [8, 9]),
D 6 (.mov 10)])
(.ret))⟩
theorem rf181_eq : cfnAt Tryz.prog 181 [] = some rf181 := by kernel_rfl
def rf230 : RFn := ⟨1, 13, [.tmp 4], .seq (.ops [D 4 (.mov FF)])
(.seq (.draw (.take (D 5 (.fadr 1 0))<|
.take (D 6 (.load 5 1 false))<|
.take (D 7 (.mov 0))<|
.take (D 8 (.idxS 6 7 4))<|
.take (D 9 (.load 8 4 true))<|
.take (D 10 (.load 2 1 false))<|
.alt (D 11 (.call 180 [9, 10])) true (.take (D 12 (.un .not 11))<|
.take (D 4 (.mov 12))<|
.done)
(.noalt)))
(.ret))⟩
theorem rf230_eq : cfnAt Tryz.prog 230 [] = some rf230 := by kernel_rfl
def rf182 : RFn := ⟨3, 57, [.tmp 6], .seq (.ops [D 3 (.box false 0 6),
D 6 (.mov (.c (.isl 0 [] (some 0))))])
(.seq (.ops [D 15 (.fadr 3 0),
D 16 (.load 15 1 false),
D 17 (.len 16),
D 18 (.mksl [(.b false)] 1 1 17 17),
D 7 (.mov 18)])
(.seq (.seq (.ops [D 19 (.mov 1),
D 20 (.len 19),
D 21 (.mov (I 0))])
(.block 0 (.loop [2, 3, 7, 19, 20, 21] (.seq (.ops [D 22 (.bin .lss 21 20)])
(.seq (.cond 22 (.skip) (.exit 0))
(.seq (.block 1 (.seq (.ops [D 23 (.idxS 19 21 1),
D 24 (.load 23 1 false),
D 9 (.mov 24)])
(.seq (.ops [D 25 (.fadr 3 3),
D 26 (.load 25 1 false),
D 27 (.mov 9),
D 28 (.idxS 26 27 1),
D 29 (.load 28 1 false),
D 30 (.len 29),
D 31 (.mov (I 0))])
(.block 2 (.loop [2, 3, 7, 19, 20, 21, 29, 30, 31] (.seq (.ops [D 32 (.bin .lss 31 30)])
(.seq (.cond 32 (.skip) (.exit 2))
(.seq (.block 3 (.seq (.ops [D 33 (.idxS 29 31 1),
D 34 (.load 33 1 false),
D 11 (.mov 34)])
(.ops [D 35 (.mov 7),
D 36 (.mov 11),
D 37 (.idxS 35 36 1),
N (.store 37 TT 1)])))
(.ops [D 38 (.bin .add 31 (I 1)),
D 31 (.mov 38)])))))))))
(.ops [D 39 (.bin .add 21 (I 1)),
D 21 (.mov 39)])))))))
(.seq (.ops [D 12 (.mov (.c (.isl 0 [] (some 0))))])
(.seq (.seq (.ops [D 40 (.mov 7),
D 41 (.len 40),
D 42 (.mov (I 0))])
(.block 4 (.loop [2, 3, 12, 40, 41, 42] (.seq (.ops [D 43 (.bin .lss 42 41)])
(.seq (.cond 43 (.skip) (.exit 4))
(.seq (.block 5 (.seq (.ops [D 44 (.mov 42),
D 45 (.idxS 40 42 1),
D 46 (.load 45 1 false),
D 13 (.mov 44),
D 14 (.mov 46)])
(.seq (.ops [D 47 (.mov 14)])
(.cond 47 (.ops [D 48 (.mov 12),
D 49 (.mov 13),
D 50 (.bslice 1 [49]),
D 51 (.app 48 50 1 8),
D 12 (.mov 51)]) (.skip)))))
(.ops [D 52 (.bin .add 42 (I 1)),
D 42 (.mov 52)])))))))
(.seq (.ops [D 53 (.load 3 6 true),
D 54 (.mov 12),
D 55 (.mov 2),
D 56 (.call 181 [53, 54, 55]),
D 6 (.mov 56)])
(.ret))))))⟩
theorem rf182_eq : cfnAt Tryz.prog 182 [[2, 3, 7, 19, 20, 21], [2, 3, 7, 19, 20, 21, 29, 30, 31], [2, 3, 12, 40, 41, 42]] = some rf182 := by kernel_rfl
def rf183 : RFn := ⟨2, 39, [.tmp 4], .seq (.ops [D 2 (.box false 0 6),
D 4 (.mov (I 0))])
(.seq (.ops [D 5 (.mov (I (-1)))])
(.seq (.seq (.ops [D 8 (.mov 1),
D 9 (.len 8),
D 10 (.mov (I 0))])
(.block 0 (.loop [2, 5, 8, 9, 10, 20, 21, 22, 23, 24, 25, 26, 27, 28, 29, 30] (.seq (.ops [D 11 (.bin .lss 10 9)])
(.seq (.cond 11 (.skip) (.exit 0))
(.seq (.block 1 (.seq (.ops [D 12 (.idxS 8 10 1),
D 13 (.load 12 1 false),
D 7 (.mov 13)])
(.seq (.ops [D 14 (.fadr 2 4),
D 15 (.load 14 1 false),
D 16 (.mov 7),
D 17 (.idxS 15 16 1),
D 18 (.load 17 1 false),
D 19 (.mov 18),
Y 19 20 (.mov 5),
Y 19 21 (.bin .lss 20 (I 0)),
Y 19 22 (.mov 21),
Z 22 23 (.fadr 2 1),
Z 22 24 (.load 23 1 false),
Z 22 25 (.mov 7),
Z 22 26 (.idxS 24 25 1),
Z 22 27 (.load 26 1 false),
Z 22 28 (.mov 5),
Z 22 29 (.bin .lss 27 28),
Y 19 30 (.pick 22 TT 29),
D 31 (.pick 19 30 FF)])
(.cond 31 (.ops [D 32 (.fadr 2 1),
D 33 (.load 32 1 false),
D 34 (.mov 7),
D 35 (.idxS 33 34 1),
D 36 (.load 35 1 false),
D 5 (.mov 36)]) (.skip)))))
(.ops [D 37 (.bin .add 10 (I 1)),
D 10 (.mov 37)])))))))
(.seq (.ops [D 38 (.mov 5),
D 4 (.mov 38)])
(.ret))))⟩
theorem rf183_eq : cfnAt Tryz.prog 183 [[2, 5, 8, 9, 10, 20, 21, 22, 23, 24, 25, 26, 27, 28, 29, 30]] = some rf183 := by kernel_rfl
def rf118 : RFn := ⟨1, 77, [.tmp 2], .seq (.ops [D 1 (.box false 0 6),
D 2 (.mov FF)])
(.seq (.ops [D 5 (.fadr 1 0),
D 6 (.load 5 1 false),
D 7 (.len 6),
D 3 (.mov 7)])
(.seq (.seq (.ops [D 8 (.mov 3),
D 9 (.bin .gtr 8 (I 2000)),
D 10 (.mov 9),
Z 10 11 (.fadr 1 1),
Z 10 12 (.load 11 1 false),
Z 10 13 (.len 12),
Z 10 14 (.mov 3),
Z 10 15 (.bin .neq 13 14),
D 16 (.pick 10 TT 15),
D 17 (.mov 16),
Z 17 18 (.fadr 1 3),
Z 17 19 (.load 18 1 false),
Z 17 20 (.len 19),
Z 17 21 (.mov 3),
Z 17 22 (.bin .neq 20 21),
D 23 (.pick 17 TT 22),
D 24 (.mov 23),
Z 24 25 (.fadr 1 4),
Z 24 26 (.load 25 1 false),
Z 24 27 (.len 26),
Z 24 28 (.mov 3),
Z 24 29 (.bin .neq 27 28),
D 30 (.pick 24 TT 29),
D 31 (.mov 30),
Z 31 32 (.fadr 1 5),
Z 31 33 (.load 32 1 false),
Z 31 34 (.bin .lss 33 (I (-1))),
D 35 (.pick 31 TT 34),
D 36 (.mov 35),
Z 36 37 (.fadr 1 5),
Z 36 38 (.load 37 1 false),
Z 36 39 (.bin .geq 38 (I 40)),
D 40 (.pick 36 TT 39),
D 41 (.mov 40),
Z 41 42 (.load 1 6 true),
Z 41 43 (.fadr 1 2),
Z 41 44 (.load 43 1 false),
Z 41 45 (.call 177 [42, 44]),
Z 41 46 (.un .not 45),
D 47 (.pick 41 TT 46)])
(.cond 47 (.seq (.ops [D 2 (.mov FF)])
(.ret)) (.skip)))
(.seq (.seq (.ops [D 48 (.mov 3),
D 49 (.mov (I 0))])
(.block 0 (.loop [1, 48, 49, 59, 60, 61, 62, 63, 64, 67, 68, 69, 70, 71, 72, 73, 74] (.seq (.ops [D 50 (.bin .lss 49 48)])
(.seq (.cond 50 (.skip) (.exit 0))
(.seq (.block 1 (.seq (.ops [D 51 (.mov 49),
D 4 (.mov 51)])
(.seq (.draw (.take (D 52 (.fadr 1 1))<|
.take (D 53 (.load 52 1 false))<|
.take (D 54 (.mov 4))<|
.take (D 55 (.idxS 53 54 1))<|
.take (D 56 (.load 55 1 false))<|
.take (D 57 (.bin .lss 56 (I 0)))<|
.take (D 58 (.mov 57))<|
.take (Z 58 59 (.fadr 1 1))<|
.take (Z 58 60 (.load 59 1 false))<|
.take (Z 58 61 (.mov 4))<|
.take (Z 58 62 (.idxS 60 61 1))<|
.take (Z 58 63 (.load 62 1 false))<|
.take (Z 58 64 (.bin .geq 63 (I 40)))<|
.take (D 65 (.pick 58 TT 64))<|
.take (D 66 (.mov 65))<|
.take (Z 66 67 (.load 1 6 true))<|
.take (Z 66 68 (.fadr 1 3))<|
.take (Z 66 69 (.load 68 1 false))<|
.take (Z 66 70 (.mov 4))<|
.take (Z 66 71 (.idxS 69 70 1))<|
.take (Z 66 72 (.load 71 1 false))<|
.alt (Z 66 73 (.call 177 [67, 72])) false (.take (Z 66 74 (.un .not 73))<|
.take (D 75 (.pick 66 TT 74))<|
.done)
(.noalt)))
(.cond 75 (.seq (.ops [D 2 (.mov FF)])
(.ret)) (.skip)))))
(.ops [D 76 (.bin .add 49 (I 1)),
D 49 (.mov 76)])))))))
(.seq (.ops [D 2 (.mov TT)])
(.ret)))))⟩
theorem rf118_eq : cfnAt Tryz.prog 118 [[1, 48, 49, 59, 60, 61, 62, 63, 64, 67, 68, 69, 70, 71, 72, 73, 74]] = some rf118 := by kernel_rfl
def rf120 : RFn := ⟨2, 13, [.tmp 4], .seq (.ops [D 2 (.box false 0 6),
D 4 (.mov (.c (.isl 0 [] (some 0))))])
(.seq (.seq (.ops [D 5 (.load 2 6 true),
D 6 (.call 118 [5]),
D 7 (.un .not 6)])
(.cond 7 (.seq (.ops [D 4 (.mov (.c (.isl 0 [] (some 0))))])
(.ret)) (.skip)))
(.seq (.ops [D 8 (.load 2 6 true),
D 9 (.fadr 2 2),
D 10 (.load 9 1 false),
D 11 (.mov 1),
D 12 (.call 181 [8, 10, 11]),
D 4 (.mov 12)])
(.ret)))⟩
theorem rf120_eq : cfnAt Tryz.prog 120 [] = some rf120 := by kernel_rfl
def rf121 : RFn := ⟨3, 20, [.tmp 6], .seq (.ops [D 3 (.box false 0 6),
D 6 (.mov (.c (.isl 0 [] (some 0))))])
(.seq (.seq (.ops [D 7 (.load 3 6 true),
D 8 (.call 118 [7]),
D 9 (.un .not 8),
D 10 (.mov 9),
Z 10 11 (.load 3 6 true),
Z 10 12 (.mov 1),
Z 10 13 (.call 177 [11, 12]),
Z 10 14 (.un .not 13),
D 15 (.pick 10 TT 14)])
(.cond 15 (.seq (.ops [D 6 (.mov (.c (.isl 0 [] (some 0))))])
(.ret)) (.skip)))
(.seq (.ops [D 16 (.load 3 6 true),
D 17 (.mov 1),
D 18 (.mov 2),
D 19 (.call 182 [16, 17, 18]),
D 6 (.mov 19)])
(.ret)))⟩
theorem rf121_eq : cfnAt Tryz.prog 121 [] = some rf121 := by kernel_rfl
def rf123 : RFn := ⟨2, 17, [.tmp 4], .seq (.ops [D 2 (.box false 0 6),
D 4 (.mov (I 0))])
(.seq (.seq (.ops [D 5 (.load 2 6 true),
D 6 (.call 118 [5]),
D 7 (.un .not 6),
D 8 (.mov 7),
Z 8 9 (.load 2 6 true),
Z 8 10 (.mov 1),
Z 8 11 (.call 177 [9, 10]),
Z 8 12 (.un .not 11),
D 13 (.pick 8 TT 12)])
(.cond 13 (.seq (.ops [D 4 (.mov (I (-1)))])
(.ret)) (.skip)))
(.seq (.ops [D 14 (.load 2 6 true),
D 15 (.mov 1),
D 16 (.call 183 [14, 15]),
D 4 (.mov 16)])
(.ret)))⟩
theorem rf123_eq : cfnAt Tryz.prog 123 [] = some rf123 := by kernel_rfl
end Hk
namespace Hk
open Go Go.Proofs
set_option linter.unusedVariables false
set_option linter.unusedSimpArgs false
set_option maxRecDepth 100000
def unionI (a b : List Int) : List Int := compI (sortI (a ++ b))
theorem sortI_len (zs : List Int) : (sortI zs).length = zs.length := by simp [sortI]
theorem sort_fn2 {zs : List Int} {n : Nat} {rows : List (List PV)} (hsz : zs.length < 2 ^ 41) (hn : n = zs.length) (hr : rows = ints zs) :
 Fn Tryz.prog 96 [.sl 0 1 0 n none] [.pr 1 rows] [] (fun r H => r = .tup [] ∧ H = [.pr 1 (ints (sortI zs))]) := by
 subst hn hr
 exact sort_fn zs (by omega)
theorem compact_fn2 {zs : List Int} {n : Nat} (hsz : zs.length < 2 ^ 40) (hn : n = zs.length) :
 Fn Tryz.prog 176 [.sl 0 1 0 n none] [.pr 1 (ints zs)] [] (fun r H => ∃ rest, r = .sl 0 1 0 (compI zs).length none ∧ H = [.pr 1 (ints (compI zs) ++ rest)]) := by
 subst hn
 exact compact_fn zs hsz
theorem copied {α : Type} (ra : List α) (z : α) : List.take 0 (List.replicate ((ra.length : Nat) : Int).toNat z) ++ List.take (min ra.length ((ra.length : Nat) : Int).toNat) ra ++ List.drop (0 + min ra.length ((ra.length : Nat) : Int).toNat) (List.replicate ((ra.length : Nat) : Int).toNat z) = ra := by
 rw [Int.toNat_natCast, Nat.min_self, List.take_length, Nat.zero_add]; simp
theorem union_fn (a b : List Int) (ca cb : Option Nat) (ha : a.length < 2 ^ 39) (hb : b.length < 2 ^ 39) : PF Tryz.prog 117 [.isl 1 (ints a) ca, .isl 1 (ints b) cb] (.isl 1 (ints (unionI a b)) none) := by
 have hla := ints_len a
 have hlb := ints_len b
 have e1 : intAr .add .i64 ((ints a).length : Int) ((ints b).length : Int) = ((a.length + b.length : Nat) : Int) := by rw [add64 (by omega) (by omega)]; omega
 have hs := fun n rows => sort_fn2 (zs := a ++ b) (n := n) (rows := rows) (by simp; omega)
 have hc := fun n => compact_fn2 (zs := sortI (a ++ b)) (n := n) (by rw [sortI_len]; simp; omega)
 refine pf_intro rf117_eq rmixed rfl ?_
 (refine hkG ?_)
 refine And.intro (by rw [e1]; show _ ∧ _ ∧ _ ∧ _ ≤ ((70368744177664 : Nat) : Int); unfold roomMost; omega) ?_
 (refine hkG ?_)
 refine And.intro (by simp) ?_
 (refine hkG ?_)
 refine And.intro ((congrArg List.length (copied (ints a) [PV.int .i64 0])).trans (by simp)).symm (And.intro (by show _ ≤ 70368744177664; rw [Int.toNat_natCast]; omega) ?_)
 (refine hkG ?_)
 refine vcall_own [0] (hs _ _ ?_ ?_) rfl rfl (KLeL.cons (KLe.sl rfl (.inl rfl)) KLeL.nil) ?_
 ·simp [hla, hlb]
 ·rw [ints_app]; exact congrArg (· ++ ints b) (copied (ints a) [PV.int .i64 0])
 rintro r H ⟨rfl, rfl⟩
 (refine hkG ?_)
 refine vcall_own [0] (hc _ ?_) rfl rfl (KLeL.cons (KLe.sl rfl (.inl rfl)) KLeL.nil) ?_
 ·rw [sortI_len]; simp [hla, hlb]
 rintro r H ⟨rest, rfl, rfl⟩
 (refine hkG ?_)
 refine ⟨.p (.isl 1 (ints (unionI a b)) none), [], ⟨rfl, rfl⟩, ⟨rfl, rfl⟩, ?_, .nil _⟩
 have htk : (dropN 0 (ints (compI (sortI (a ++ b))) ++ rest)).take (compI (sortI (a ++ b))).length = ints (compI (sortI (a ++ b))) := by
  show (ints (compI (sortI (a ++ b))) ++ rest).take _ = _
  rw [← ints_len (compI _)]; exact List.take_left
 exact KLe.fsl rfl rfl htk (ints_len _) (.refl _)
end Hk
namespace Hk
set_option linter.unusedVariables false
set_option linter.unusedSimpArgs false
theorem sortI_pw (l : List Int) : (sortI l).Pairwise (· ≤ ·) := by
 have := List.pairwise_mergeSort (le := fun x y : Int => decide (x ≤ y)) (fun a b c h1 h2 => by simp at *; omega) (fun a b => by simp; omega) l
 exact this.imp (fun h => by simpa using h)
theorem sortI_mem (l : List Int) (x : Int) : x ∈ sortI l ↔ x ∈ l := by unfold sortI; exact List.mem_mergeSort
theorem pw_get {l : List Int} (h : l.Pairwise (· ≤ ·)) {i j : Nat} {x y : Int} (hij : i ≤ j) (hx : l[i]? = some x) (hy : l[j]? = some y) : x ≤ y := by
 obtain ⟨h1, e1⟩ := List.getElem?_eq_some_iff.1 hx
 obtain ⟨h2, e2⟩ := List.getElem?_eq_some_iff.1 hy
 rcases Nat.lt_or_ge i j with h3 | h3
 ·have := List.pairwise_iff_getElem.1 h i j h1 h2 h3
  rw [e1, e2] at this; exact this
 ·have : i = j := by omega
  subst this
  rw [hx] at hy; cases hy; exact Int.le_refl _
theorem compT_spec {zs : List Int} (h : zs.Pairwise (· ≤ ·)) : ∀ j, j ≤ zs.length → (compT zs j).Pairwise (· < ·) ∧ ∀ x, x ∈ compT zs j ↔ x ∈ zs.take j
 | 0, _ => by
   have : compT zs 0 = [] := by
    have := compT_len zs 0
    exact List.eq_nil_of_length_eq_zero (by omega)
   rw [this]; simp
 | j + 1, hj => by
   obtain ⟨h1, h2⟩ := compT_spec h j (by omega)
   obtain ⟨z, hz⟩ : ∃ z, zs[j]? = some z := ⟨_, List.getElem?_eq_getElem (by omega)⟩
   have ht : zs.take (j + 1) = zs.take j ++ [z] := by rw [List.take_add_one, hz]; rfl
   by_cases hj0 : j = 0
   ·subst hj0
    have : compT zs 1 = zs.take 1 := compT_all zs 1 hj (fun i h1 h2 => by omega)
    rw [this, ht]; simp
   ·obtain ⟨y, hy⟩ : ∃ y, zs[j - 1]? = some y := ⟨_, List.getElem?_eq_getElem (by omega)⟩
    by_cases he : z = y
    ·rw [compT_skip hj0 (by rw [hz, hy, he])]
     refine ⟨h1, fun x => ?_⟩
     rw [h2, ht, List.mem_append, List.mem_singleton]
     refine ⟨.inl, fun hx => hx.elim id fun hx => ?_⟩
     subst hx
     rw [he]
     rw [List.mem_iff_getElem?]
     exact ⟨j - 1, by rw [List.getElem?_take_of_lt (by omega)]; exact hy⟩
    ·rw [compT_put hz (by rw [hz, hy]; simpa using he)]
     refine ⟨?_, fun x => by rw [ht, List.mem_append, List.mem_append, h2]⟩
     rw [List.pairwise_append]
     refine ⟨h1, List.pairwise_singleton _ _, fun x hx w hw => ?_⟩
     rw [List.mem_singleton] at hw
     subst hw
     rw [h2, List.mem_iff_getElem?] at hx
     obtain ⟨i, hi⟩ := hx
     have hij : i < j := by
      have := (List.getElem?_eq_some_iff.1 hi).1
      rw [List.length_take] at this; omega
     rw [List.getElem?_take_of_lt hij] at hi
     have a1 := pw_get h (show i ≤ j - 1 by omega) hi hy
     have a2 := pw_get h (show j - 1 ≤ j by omega) hy hz
     omega
theorem union_pw (a b : List Int) : (unionI a b).Pairwise (· < ·) := (compT_spec (sortI_pw (a ++ b)) _ (Nat.le_refl _)).1
theorem union_mem (a b : List Int) (x : Int) : x ∈ unionI a b ↔ x ∈ a ∨ x ∈ b := by
 have := (compT_spec (sortI_pw (a ++ b)) _ (Nat.le_refl _)).2 x
 show x ∈ compT _ _ ↔ _
 rw [this, List.take_length, sortI_mem, List.mem_append]
def Asc (n : Nat) (l : List Int) : Prop := l.Pairwise (· < ·) ∧ ∀ x ∈ l, 0 ≤ x ∧ x < n
theorem Asc.union {n : Nat} {a b : List Int} (ha : Asc n a) (hb : Asc n b) : Asc n (unionI a b) :=
 ⟨union_pw a b, fun x hx => ((union_mem a b x).1 hx).elim (ha.2 x) (hb.2 x)⟩
theorem Asc.nil (n : Nat) : Asc n [] := ⟨.nil, fun x h => by cases h⟩
theorem Asc.one {n p : Nat} (h : p < n) : Asc n [(p : Int)] := ⟨List.pairwise_singleton _ _, fun x hx => by rw [List.mem_singleton] at hx; omega⟩
theorem Asc.more {n m : Nat} {l : List Int} (h : Asc n l) (hm : n ≤ m) : Asc m l := ⟨h.1, fun x hx => by have := h.2 x hx; omega⟩
theorem asc_lt {l : List Int} (h : l.Pairwise (· < ·)) (h0 : ∀ x ∈ l, 0 ≤ x) : ∀ (i : Nat) (x : Int), l[i]? = some x → (i : Int) ≤ x
 | 0, x, hx => h0 x (List.mem_of_getElem? hx)
 | i + 1, x, hx => by
   have h1 := (List.getElem?_eq_some_iff.1 hx).1
   have := asc_lt h h0 i _ (List.getElem?_eq_getElem (by omega))
   have h2 := List.pairwise_iff_getElem.1 h i (i + 1) (by omega) h1 (by omega)
   rw [(List.getElem?_eq_some_iff.1 hx).2] at h2
   omega
theorem Asc.len {n : Nat} {l : List Int} (h : Asc n l) : l.length ≤ n := by
 by_cases h0 : l.length = 0
 ·omega
 ·have h1 : l.length - 1 < l.length := by omega
  have := asc_lt h.1 (fun x hx => (h.2 x hx).1) (l.length - 1) _ (List.getElem?_eq_getElem h1)
  have h2 := (h.2 _ (List.getElem_mem h1)).2
  omega
theorem asc_ext {a b : List Int} (ha : a.Pairwise (· < ·)) (hb : b.Pairwise (· < ·)) (h : ∀ x, x ∈ a ↔ x ∈ b) : a = b := by
 induction a generalizing b with
 | nil => cases b with
   | nil => rfl
   | cons y b => have := (h y).2 (by simp); cases this
 | cons x a ih =>
   cases b with
   | nil => have := (h x).1 (by simp); cases this
   | cons y b =>
     rw [List.pairwise_cons] at ha hb
     have hxy : x = y := by
      have h1 := (h x).1 (by simp)
      have h2 := (h y).2 (by simp)
      rw [List.mem_cons] at h1 h2
      rcases h1 with h1 | h1
      ·exact h1
      ·rcases h2 with h2 | h2
       ·exact h2.symm
       ·have := ha.1 y h2
        have := hb.1 x h1
        omega
     subst hxy
     congr 1
     refine ih ha.2 hb.2 fun z => ⟨fun hz => ?_, fun hz => ?_⟩
     ·have := (h z).1 (by simp [hz])
      rw [List.mem_cons] at this
      rcases this with e | e
      ·subst e; have := ha.1 _ hz; omega
      ·exact e
     ·have := (h z).2 (by simp [hz])
      rw [List.mem_cons] at this
      rcases this with e | e
      ·subst e; have := hb.1 _ hz; omega
      ·exact e
end Hk
namespace Hk
open Go Go.Proofs
set_option linter.unusedVariables false
set_option linter.unusedSimpArgs false
set_option maxRecDepth 100000
structure Part where
 first : List Int
 last : List Int
 empty : Bool
def Part.pv (x : Part) : PV := .agg [.isl 1 (ints x.first) none, .isl 1 (ints x.last) none, .b x.empty]
def Part.none' (e : Bool) : Part := ⟨[], [], e⟩
def Part.Ok (n : Nat) (x : Part) : Prop := Asc n x.first ∧ Asc n x.last
structure Mk where
 sets : List Set4
 rules : List Int
 follow : List (List Int)
 ends : List Bool
 first : List Int
 emp : Int
def Mk.n (m : Mk) : Nat := m.sets.length
structure Mk.Ok (m : Mk) : Prop where
 rules : m.rules.length = m.n
 follow : m.follow.length = m.n
 ends : m.ends.length = m.n
 asc : ∀ l ∈ m.follow, Asc m.n l
def rowL (l : List Int) : List PV := [.isl 1 (ints l) none]
def rowT (b : Bool) : List PV := [.b b]
def Mk.H (m : Mk) : List Blk :=
 [.mx [.sl 1 4 0 m.n none, .sl 2 1 0 m.n none, .p (.isl 1 (ints m.first) none), .sl 3 1 0 m.n none, .sl 4 1 0 m.n none, .p (i64 m.emp)],
  .pr 4 (m.sets.map Set4.cells), .pr 1 (m.rules.map rowI), .pr 1 (m.follow.map rowL), .pr 1 (m.ends.map rowT)]
def behindStep (first : List Int) (F : List (List Int)) (p : Int) : List (List Int) := F.set p.toNat (unionI (F.getD p.toNat []) first)
def Mk.behind (m : Mk) (last first : List Int) : Mk := { m with follow := last.foldl (behindStep first) m.follow }
def FollowOk (n : Nat) (F : List (List Int)) : Prop := F.length = n ∧ ∀ l ∈ F, Asc n l
theorem behindStep_ok {n : Nat} {F : List (List Int)} {first : List Int} {p : Int} (h : FollowOk n F) (hf : Asc n first) (hp : 0 ≤ p ∧ p < n) : FollowOk n (behindStep first F p) := by
 obtain ⟨h1, h2⟩ := h
 refine ⟨by simp [behindStep, h1], fun l hl => ?_⟩
 rcases List.mem_or_eq_of_mem_set hl with hl | rfl
 ·exact h2 l hl
 ·refine Asc.union ?_ hf
  have hlt : p.toNat < F.length := by omega
  rw [List.getD_eq_getElem?_getD, List.getElem?_eq_getElem hlt]
  exact h2 _ (List.getElem_mem hlt)
theorem behind_ok {n : Nat} {first : List Int} (hf : Asc n first) : ∀ (last : List Int) (F : List (List Int)), FollowOk n F → (∀ p ∈ last, 0 ≤ p ∧ p < (n : Int)) → FollowOk n (last.foldl (behindStep first) F)
 | [], F, h, _ => h
 | p :: r, F, h, hp => behind_ok hf r _ (behindStep_ok h hf (hp p (by simp))) fun q hq => hp q (by simp [hq])
theorem behind_fn (m : Mk) (hm : m.Ok) (hn : m.n ≤ 10000) (last first : List Int) (hl : Asc m.n last) (hf : Asc m.n first) :
 Fn Tryz.prog 227 [.ptr 0 6 0 0, .p (.isl 1 (ints last) none), .p (.isl 1 (ints first) none)] m.H [] (fun r H => r = .tup [] ∧ H = (m.behind last first).H) := by
 obtain ⟨P, P0, PL, PS⟩ := fold_seq (behindStep first) m.follow last
 have hll := hl.len
 have hfl := hf.len
 have hil := ints_len last
 have hPok : ∀ i, i ≤ last.length → FollowOk m.n (P i) := by
  intro i
  induction i with
  | zero => intro _; rw [P0]; exact ⟨hm.follow, hm.asc⟩
  | succ i ih =>
    intro hi
    have hg := List.getElem?_eq_getElem (show i < last.length by omega)
    rw [PS i _ hg]
    exact behindStep_ok (ih (by omega)) hf (hl.2 _ (mem_get hg))
 have hH : (m.behind last first).H = [.mx [.sl 1 4 0 m.n none, .sl 2 1 0 m.n none, .p (.isl 1 (ints m.first) none), .sl 3 1 0 m.n none, .sl 4 1 0 m.n none, .p (i64 m.emp)],
  .pr 4 (m.sets.map Set4.cells), .pr 1 (m.rules.map rowI), .pr 1 ((P last.length).map rowL), .pr 1 (m.ends.map rowT)] := by rw [PL]; rfl
 rw [hH]
 refine f_intro rf227_eq rmixed rfl ?_
 (refine hkG ?_)
 refine ⟨[], Nat, fun i => ⟨[(0, .ptr 0 6 0 0), (2, .p (.isl 1 (ints first) none)), (8, .p (.isl 1 (ints last) none)), (9, .p (i64 last.length)), (10, .p (i64 i))],
  [.mx [.sl 1 4 0 m.n none, .sl 2 1 0 m.n none, .p (.isl 1 (ints m.first) none), .sl 3 1 0 m.n none, .sl 4 1 0 m.n none, .p (i64 m.emp)],
   .pr 4 (m.sets.map Set4.cells), .pr 1 (m.rules.map rowI), .pr 1 ((P i).map rowL), .pr 1 (m.ends.map rowT)]⟩,
  fun i => i ≤ last.length, fun i => last.length - i, ⟨0, Nat.zero_le _, ?_⟩, fun i hi => ?_⟩
 ·((refine ⟨⟨rfl,rfl⟩,?_,?_⟩<;>((repeat'(first|exact TLe.nil|exact HLe.nil _|refine TLe.cons ?_ ?_|refine HLe.cons ?_ ?_|exact KLe.ptr rfl|exact KLe.sl rfl (.inl rfl)|exact KLe.csl rfl|exact KLe.mpr rfl|refine KLe.pe ?_|refine KLe.tup ?_|refine KLe.agg ?_|refine BLe.pe ?_|refine BLe.mpe ?_|refine BLe.ghe ?_|refine BLe.axe ?_ ?_|refine BLe.mx ?_|exact KLeL.nil|refine KLe.fn ?_ ?_|refine KLeL.cons ?_ ?_|exact KLe.und _|exact BLe.dead _))<;>(try with_reducible rfl)))<;>(first|rfl|((refine congrArg (PV.int IntKind.i64) ?_)<;>(first|rfl|omega|(rw [add64 (by omega) (by omega)];omega)|(rw [sub64 (by omega) (by omega)];omega)))|skip))
  rw [P0]
 ·have hi : i ≤ last.length := hi
  obtain ⟨hP1, hP2⟩ := hPok i hi
  by_cases hie : i = last.length
  ·subst hie
   (refine hkG ?_)
   (refine hkD ?_)
   (exact hkE)
  ·have hlt : i < last.length := by omega
   obtain ⟨p, hp⟩ : ∃ p, last[i]? = some p := ⟨_, List.getElem?_eq_getElem hlt⟩
   have hpr := hl.2 p (mem_get hp)
   have hg := ints_get hp
   have hPS := PS i p hp
   have hplt : p.toNat < (P i).length := by omega
   obtain ⟨l, hl'⟩ : ∃ l, (P i)[p.toNat]? = some l := ⟨_, List.getElem?_eq_getElem hplt⟩
   have hga : ((P i).map rowL)[0 + p.toNat]? = some (rowL l) := by rw [Nat.zero_add, List.getElem?_map, hl']; rfl
   have hla := (hP2 l (mem_get hl')).len
   have hu := union_fn l first none none (by omega) (by omega)
   (refine hkG ?_)
   (refine hkD ?_)
   refine ⟨_, hg, ?_⟩
   (refine hkG ?_)
   refine ⟨_, hga, ?_⟩
   (refine hkG ?_)
   refine vcall_pf hu rfl rfl ?_
   (refine hkG ?_)
   refine ⟨_, hga, rfl, Nat.le_refl 1, ?_⟩
   (refine hkG ?_)
   refine ⟨i + 1, hlt, by show last.length - (i + 1) < last.length - i; omega, ?_⟩
   ((refine ⟨⟨rfl,rfl⟩,?_,?_⟩<;>((repeat'(first|exact TLe.nil|exact HLe.nil _|refine TLe.cons ?_ ?_|refine HLe.cons ?_ ?_|exact KLe.ptr rfl|exact KLe.sl rfl (.inl rfl)|exact KLe.csl rfl|exact KLe.mpr rfl|refine KLe.pe ?_|refine KLe.tup ?_|refine KLe.agg ?_|refine BLe.pe ?_|refine BLe.mpe ?_|refine BLe.ghe ?_|refine BLe.axe ?_ ?_|refine BLe.mx ?_|exact KLeL.nil|refine KLe.fn ?_ ?_|refine KLeL.cons ?_ ?_|exact KLe.und _|exact BLe.dead _))<;>(try with_reducible rfl)))<;>(first|rfl|((refine congrArg (PV.int IntKind.i64) ?_)<;>(first|rfl|omega|(rw [add64 (by omega) (by omega)];omega)|(rw [sub64 (by omega) (by omega)];omega)))|skip))
   rw [hPS, Nat.zero_add]
   unfold behindStep
   rw [List.map_set, List.getD_eq_getElem?_getD, hl']
   rfl
def Mk.place (m : Mk) (s : Set4) (rule : Int) : Mk := { m with sets := m.sets ++ [s], rules := m.rules ++ [rule], follow := m.follow ++ [[]], ends := m.ends ++ [false] }
def Mk.placed (m : Mk) : Part := ⟨[(m.n : Int)], [(m.n : Int)], false⟩
theorem plr_snoc {x y : List PV} (h : PLeL x y) : ∀ l : List (List PV), PLeR (l ++ [x]) (l ++ [y])
 | [] => .cons h (.refl _)
 | z :: r => .cons (.refl _) (plr_snoc h r)
theorem Set4.len4 (s : Set4) : s.cells.length = 4 := rfl
theorem place_fn (m : Mk) (hm : m.Ok) (hn : m.n ≤ 10000) (s : Set4) (rule : Int) :
 Fn Tryz.prog 172 [.ptr 0 6 0 0, .p (.agg s.cells), .p (i64 rule)] m.H [1, 2, 3, 4] (fun r H => r = .p m.placed.pv ∧ H = (m.place s rule).H) := by
 have h1 : (m.sets.map Set4.cells).length = m.n := by simp [Mk.n]
 have h2 : (m.rules.map rowI).length = m.n := by simp [hm.rules]
 have h3 : (m.follow.map rowL).length = m.n := by simp [hm.follow]
 have h4 : (m.ends.map rowT).length = m.n := by simp [hm.ends]
 have hN : (m.place s rule).n = m.n + 1 := by simp [Mk.place, Mk.n]
 have hH : (m.place s rule).H = [.mx [.sl 1 4 0 (m.n + 1) none, .sl 2 1 0 (m.n + 1) none, .p (.isl 1 (ints m.first) none), .sl 3 1 0 (m.n + 1) none, .sl 4 1 0 (m.n + 1) none, .p (i64 m.emp)],
  .pr 4 (m.sets.map Set4.cells ++ [s.cells]), .pr 1 (m.rules.map rowI ++ [[i64 rule]]), .pr 1 (m.follow.map rowL ++ [[.isl 1 [] none]]), .pr 1 (m.ends.map rowT ++ [[.b false]])] := by
  unfold Mk.H; rw [hN]; simp only [Mk.place, List.map_append]; rfl
 rw [hH]
 refine f_intro rf172_eq rmixed rfl ?_
 (refine hkG ?_)
 refine And.intro (by show (m.n + 1) * 32 ≤ 70368744177664; omega) ?_
 (refine hkG ?_)
 refine And.intro (by show (m.n + 1) * 8 ≤ 70368744177664; omega) ?_
 (refine hkG ?_)
 refine And.intro (by show (m.n + 1) * 24 ≤ 70368744177664; omega) ?_
 (refine hkG ?_)
 refine And.intro (by show (m.n + 1) * 1 ≤ 70368744177664; omega) ?_
 (refine hkG ?_)
 refine ⟨.p m.placed.pv, _, ⟨rfl, rfl⟩, ⟨rfl, rfl⟩, ?_, ?_⟩
 ·refine KLe.aggp (KLeL.cons (KLe.fsl rfl rfl rfl rfl (.refl _)) (KLeL.cons (KLe.fsl rfl rfl rfl rfl (.refl _)) (KLeL.cons (KLe.pe rfl) KLeL.nil)))
 ·refine .cons ?_ (.cons (BLe.pe rfl) (.cons (BLe.pe rfl) (.cons (BLe.pr (plr_snoc (.cons (PLe.nil (.inl rfl)) (.refl _)) _)) (.cons (BLe.pe rfl) (.nil _)))))
  (((repeat'(first|exact TLe.nil|exact HLe.nil _|refine TLe.cons ?_ ?_|refine HLe.cons ?_ ?_|exact KLe.ptr rfl|exact KLe.sl rfl (.inl rfl)|exact KLe.csl rfl|exact KLe.mpr rfl|refine KLe.pe ?_|refine KLe.tup ?_|refine KLe.agg ?_|refine BLe.pe ?_|refine BLe.mpe ?_|refine BLe.ghe ?_|refine BLe.axe ?_ ?_|refine BLe.mx ?_|exact KLeL.nil|refine KLe.fn ?_ ?_|refine KLeL.cons ?_ ?_|exact KLe.und _|exact BLe.dead _))<;>(try with_reducible rfl)))
def Part.then' (a b : Part) : Part := ⟨if a.empty then unionI a.first b.first else a.first, if b.empty then unionI b.last a.last else b.last, a.empty && b.empty⟩
theorem behind_H (m : Mk) (last first : List Int) : (m.behind last first).H = [.mx [.sl 1 4 0 m.n none, .sl 2 1 0 m.n none, .p (.isl 1 (ints m.first) none), .sl 3 1 0 m.n none, .sl 4 1 0 m.n none, .p (i64 m.emp)],
 .pr 4 (m.sets.map Set4.cells), .pr 1 (m.rules.map rowI), .pr 1 ((m.behind last first).follow.map rowL), .pr 1 (m.ends.map rowT)] := rfl
set_option maxHeartbeats 8000000 in
theorem then2_fn (m : Mk) (hm : m.Ok) (hn : m.n ≤ 10000) (a b : Part) (ha : a.Ok m.n) (hb : b.Ok m.n) :
 Fn Tryz.prog 174 [.ptr 0 6 0 0, .p a.pv, .p b.pv] m.H [] (fun r H => r = .p (a.then' b).pv ∧ H = (m.behind a.last b.first).H) := by
 have hbe := behind_fn m hm hn a.last b.first ha.2 hb.1
 have l1 := ha.1.len
 have l2 := ha.2.len
 have l3 := hb.1.len
 have l4 := hb.2.len
 have hu1 := union_fn a.first b.first none none (by omega) (by omega)
 have hu2 := union_fn b.last a.last none none (by omega) (by omega)
 obtain ⟨af, al, ae⟩ := a
 obtain ⟨bf, bl, be⟩ := b
 cases ae <;> cases be
 all_goals
  refine f_intro rf174_eq rmixed rfl ?_
  (refine hkG ?_)
  refine vcall_own [0, 1, 2, 3, 4] hbe rfl rfl (KLeL.cons (KLe.ptr rfl) (KLeL.cons (KLe.pe rfl) (KLeL.cons (KLe.pe rfl) KLeL.nil))) ?_
  rintro r H ⟨rfl, rfl⟩
  rw [behind_H]
  (refine hkG ?_)
  (refine hkC ?_)
  refine And.intro ?_ ?_
 ·(refine hkG ?_)
  (refine ⟨_,_,⟨rfl,rfl⟩,⟨rfl,rfl⟩,?_,?_⟩<;>((repeat'(first|exact TLe.nil|exact HLe.nil _|refine TLe.cons ?_ ?_|refine HLe.cons ?_ ?_|exact KLe.ptr rfl|exact KLe.sl rfl (.inl rfl)|exact KLe.csl rfl|exact KLe.mpr rfl|refine KLe.pe ?_|refine KLe.tup ?_|refine KLe.agg ?_|refine BLe.pe ?_|refine BLe.mpe ?_|refine BLe.ghe ?_|refine BLe.axe ?_ ?_|refine BLe.mx ?_|exact KLeL.nil|refine KLe.fn ?_ ?_|refine KLeL.cons ?_ ?_|exact KLe.und _|exact BLe.dead _))<;>(try with_reducible rfl)))
  all_goals rfl
 ·(refine hkG ?_)
  (refine ⟨_,_,⟨rfl,rfl⟩,⟨rfl,rfl⟩,?_,?_⟩<;>((repeat'(first|exact TLe.nil|exact HLe.nil _|refine TLe.cons ?_ ?_|refine HLe.cons ?_ ?_|exact KLe.ptr rfl|exact KLe.sl rfl (.inl rfl)|exact KLe.csl rfl|exact KLe.mpr rfl|refine KLe.pe ?_|refine KLe.tup ?_|refine KLe.agg ?_|refine BLe.pe ?_|refine BLe.mpe ?_|refine BLe.ghe ?_|refine BLe.axe ?_ ?_|refine BLe.mx ?_|exact KLeL.nil|refine KLe.fn ?_ ?_|refine KLeL.cons ?_ ?_|exact KLe.und _|exact BLe.dead _))<;>(try with_reducible rfl)))
  all_goals rfl
 ·(refine hkG ?_)
  refine vcall_pf hu2 rfl rfl ?_
  (refine hkG ?_)
  (refine ⟨_,_,⟨rfl,rfl⟩,⟨rfl,rfl⟩,?_,?_⟩<;>((repeat'(first|exact TLe.nil|exact HLe.nil _|refine TLe.cons ?_ ?_|refine HLe.cons ?_ ?_|exact KLe.ptr rfl|exact KLe.sl rfl (.inl rfl)|exact KLe.csl rfl|exact KLe.mpr rfl|refine KLe.pe ?_|refine KLe.tup ?_|refine KLe.agg ?_|refine BLe.pe ?_|refine BLe.mpe ?_|refine BLe.ghe ?_|refine BLe.axe ?_ ?_|refine BLe.mx ?_|exact KLeL.nil|refine KLe.fn ?_ ?_|refine KLeL.cons ?_ ?_|exact KLe.und _|exact BLe.dead _))<;>(try with_reducible rfl)))
  all_goals rfl
 ·(refine hkG ?_)
  refine vcall_pf hu2 rfl rfl ?_
  (refine hkG ?_)
  (refine ⟨_,_,⟨rfl,rfl⟩,⟨rfl,rfl⟩,?_,?_⟩<;>((repeat'(first|exact TLe.nil|exact HLe.nil _|refine TLe.cons ?_ ?_|refine HLe.cons ?_ ?_|exact KLe.ptr rfl|exact KLe.sl rfl (.inl rfl)|exact KLe.csl rfl|exact KLe.mpr rfl|refine KLe.pe ?_|refine KLe.tup ?_|refine KLe.agg ?_|refine BLe.pe ?_|refine BLe.mpe ?_|refine BLe.ghe ?_|refine BLe.axe ?_ ?_|refine BLe.mx ?_|exact KLeL.nil|refine KLe.fn ?_ ?_|refine KLeL.cons ?_ ?_|exact KLe.und _|exact BLe.dead _))<;>(try with_reducible rfl)))
  all_goals rfl
 ·(refine hkG ?_)
  refine vcall_pf hu1 rfl rfl ?_
  (refine hkG ?_)
  (refine hkC ?_)
  (refine ⟨_,_,⟨rfl,rfl⟩,⟨rfl,rfl⟩,?_,?_⟩<;>((repeat'(first|exact TLe.nil|exact HLe.nil _|refine TLe.cons ?_ ?_|refine HLe.cons ?_ ?_|exact KLe.ptr rfl|exact KLe.sl rfl (.inl rfl)|exact KLe.csl rfl|exact KLe.mpr rfl|refine KLe.pe ?_|refine KLe.tup ?_|refine KLe.agg ?_|refine BLe.pe ?_|refine BLe.mpe ?_|refine BLe.ghe ?_|refine BLe.axe ?_ ?_|refine BLe.mx ?_|exact KLeL.nil|refine KLe.fn ?_ ?_|refine KLeL.cons ?_ ?_|exact KLe.und _|exact BLe.dead _))<;>(try with_reducible rfl)))
  all_goals rfl
 ·(refine hkG ?_)
  refine vcall_pf hu1 rfl rfl ?_
  (refine hkG ?_)
  (refine hkC ?_)
  (refine ⟨_,_,⟨rfl,rfl⟩,⟨rfl,rfl⟩,?_,?_⟩<;>((repeat'(first|exact TLe.nil|exact HLe.nil _|refine TLe.cons ?_ ?_|refine HLe.cons ?_ ?_|exact KLe.ptr rfl|exact KLe.sl rfl (.inl rfl)|exact KLe.csl rfl|exact KLe.mpr rfl|refine KLe.pe ?_|refine KLe.tup ?_|refine KLe.agg ?_|refine BLe.pe ?_|refine BLe.mpe ?_|refine BLe.ghe ?_|refine BLe.axe ?_ ?_|refine BLe.mx ?_|exact KLeL.nil|refine KLe.fn ?_ ?_|refine KLeL.cons ?_ ?_|exact KLe.und _|exact BLe.dead _))<;>(try with_reducible rfl)))
  all_goals rfl
 ·(refine hkG ?_)
  refine vcall_pf hu1 rfl rfl ?_
  (refine hkG ?_)
  (refine hkC ?_)
  refine vcall_pf hu2 rfl rfl ?_
  (refine hkG ?_)
  (refine ⟨_,_,⟨rfl,rfl⟩,⟨rfl,rfl⟩,?_,?_⟩<;>((repeat'(first|exact TLe.nil|exact HLe.nil _|refine TLe.cons ?_ ?_|refine HLe.cons ?_ ?_|exact KLe.ptr rfl|exact KLe.sl rfl (.inl rfl)|exact KLe.csl rfl|exact KLe.mpr rfl|refine KLe.pe ?_|refine KLe.tup ?_|refine KLe.agg ?_|refine BLe.pe ?_|refine BLe.mpe ?_|refine BLe.ghe ?_|refine BLe.axe ?_ ?_|refine BLe.mx ?_|exact KLeL.nil|refine KLe.fn ?_ ?_|refine KLeL.cons ?_ ?_|exact KLe.und _|exact BLe.dead _))<;>(try with_reducible rfl)))
  all_goals rfl
 ·(refine hkG ?_)
  refine vcall_pf hu1 rfl rfl ?_
  (refine hkG ?_)
  (refine hkC ?_)
  refine vcall_pf hu2 rfl rfl ?_
  (refine hkG ?_)
  (refine ⟨_,_,⟨rfl,rfl⟩,⟨rfl,rfl⟩,?_,?_⟩<;>((repeat'(first|exact TLe.nil|exact HLe.nil _|refine TLe.cons ?_ ?_|refine HLe.cons ?_ ?_|exact KLe.ptr rfl|exact KLe.sl rfl (.inl rfl)|exact KLe.csl rfl|exact KLe.mpr rfl|refine KLe.pe ?_|refine KLe.tup ?_|refine KLe.agg ?_|refine BLe.pe ?_|refine BLe.mpe ?_|refine BLe.ghe ?_|refine BLe.axe ?_ ?_|refine BLe.mx ?_|exact KLeL.nil|refine KLe.fn ?_ ?_|refine KLeL.cons ?_ ?_|exact KLe.und _|exact BLe.dead _))<;>(try with_reducible rfl)))
  all_goals rfl
end Hk
namespace Hk
open Go Go.Proofs
set_option linter.unusedVariables false
set_option linter.unusedSimpArgs false
set_option maxRecDepth 100000
def isl1 (l : List Int) : PV := .isl 1 (ints l) none
theorem both2_fn (a b f g : List Int) (e : Bool) (ha : a.length < 2 ^ 39) (hb : b.length < 2 ^ 39) (hf : f.length < 2 ^ 39) (hg : g.length < 2 ^ 39) :
 Fn Tryz.prog 173 [.ptr 0 3 0 0, .p (.agg [isl1 f, isl1 g])] [.mx [.p (isl1 a), .p (isl1 b), .p (.b e)]] [] (fun r H => r = .undef ∧ H = [.mx [.p (isl1 (unionI a f)), .p (isl1 (unionI b g)), .p (.b e)]]) := by
 have h1 := union_fn a f none none ha hf
 have h2 := union_fn b g none none hb hg
 refine f_intro rf173_eq rmixed rfl ?_
 (refine hkG ?_)
 refine vcall_pf h1 rfl rfl ?_
 (refine hkG ?_)
 refine vcall_pf h2 rfl rfl ?_
 (refine hkG ?_)
 (refine ⟨_,_,⟨rfl,rfl⟩,⟨rfl,rfl⟩,?_,?_⟩<;>((repeat'(first|exact TLe.nil|exact HLe.nil _|refine TLe.cons ?_ ?_|refine HLe.cons ?_ ?_|exact KLe.ptr rfl|exact KLe.sl rfl (.inl rfl)|exact KLe.csl rfl|exact KLe.mpr rfl|refine KLe.pe ?_|refine KLe.tup ?_|refine KLe.agg ?_|refine BLe.pe ?_|refine BLe.mpe ?_|refine BLe.ghe ?_|refine BLe.axe ?_ ?_|refine BLe.mx ?_|exact KLeL.nil|refine KLe.fn ?_ ?_|refine KLeL.cons ?_ ?_|exact KLe.und _|exact BLe.dead _))<;>(try with_reducible rfl)))
 all_goals rfl
def copiesI (lo hi : Int) : Int := if hi < 0 then max lo 1 else hi
theorem copies_fn (k : Int) (s : Set4) (sub : List Tr) (lo hi : Int) : PF Tryz.prog 171 [(Tr.mk k s sub lo hi).pv] (i64 (copiesI lo hi)) := by
 unfold copiesI
 refine pf_intro rf171_eq rmixed rfl ?_
 by_cases h : hi < 0
 ·rw [if_pos h]
  (refine hkG ?_)
  (refine hkD ?_)
  exact ret_pf rfl rfl rfl
 ·rw [if_neg h]
  (refine hkG ?_)
  (refine hkD ?_)
  exact ret_pf rfl rfl rfl
def pstep (n w : Nat) : Nat := min (n + w) 1000000
def pend (k lo hi : Int) (n : Nat) : Nat := if k = 4 then min (n * (copiesI lo hi).toNat) 1000000 else n
namespace Tr
mutual
def places : Tr → Nat
 | .mk k _ sub lo hi => if k = 1 then 1 else pend k lo hi ((placesL sub).foldl pstep 0)
def placesL : List Tr → List Nat
 | [] => []
 | t :: r => t.places :: placesL r
end
theorem placesL_eq : ∀ l : List Tr, placesL l = l.map places
 | [] => rfl
 | t :: r => by rw [placesL, placesL_eq r]; rfl
theorem places_mk (k s sub lo hi) : places (.mk k s sub lo hi) = if k = 1 then 1 else pend k lo hi ((sub.map places).foldl pstep 0) := by rw [places, placesL_eq]
end Tr
theorem pfold_le : ∀ (l : List Nat) (z : Nat), z ≤ 1000000 → l.foldl pstep z ≤ 1000000
 | [], z, h => h
 | x :: r, z, h => pfold_le r _ (by unfold pstep; omega)
theorem places_le (T : Tr) : T.places ≤ 1000000 := by
 obtain ⟨k, s, sub, lo, hi⟩ := T
 rw [Tr.places_mk]
 split
 ·omega
 ·unfold pend
  split
  ·omega
  ·exact pfold_le _ 0 (by omega)
theorem places_fn (T : Tr) (hT : T.Fit) (hok : T.ok = true) : PF Tryz.prog 115 [T.pv] (i64 T.places) := by
 induction T using Tr.ind' with | h k s sub lo hi ih => ?_
 have hk := ok_kinds hok
 have hl := Tr.rows_len sub
 have hn := hT.len
 have hsub := fun t ht => ok_sub hok (t := t) ht
 have hcp := copies_fn k s sub lo hi
 obtain ⟨P, P0, PL, PS⟩ := fold_seq pstep 0 (sub.map Tr.places)
 have hPle : ∀ i, i ≤ sub.length → P i ≤ 1000000 := by
  intro i
  induction i with
  | zero => intro _; rw [P0]; omega
  | succ i ih =>
    intro h
    rw [PS i _ (List.getElem?_eq_getElem (by simp; omega))]
    unfold pstep; omega
 rw [List.length_map] at PL
 rw [Tr.places_mk, ← PL]
 refine pf_intro rf115_eq rmixed rfl ?_
 by_cases hk1 : k = 1
 ·rw [if_pos hk1]
  (refine hkG ?_)
  (refine hkD ?_)
  exact ret_pf rfl rfl rfl
 ·rw [if_neg hk1]
  (refine hkG ?_)
  (refine hkD ?_)
  refine ⟨[], Nat, fun i => ⟨[(1, .ptr 0 8 0 0), (3, .p (i64 (P i))), (10, .p (.isl 8 (Tr.rowsL sub) none)), (11, .p (i64 sub.length)), (12, .p (i64 i))], [Tr.blk k s sub lo hi]⟩,
   fun i => i ≤ sub.length, fun i => sub.length - i, ⟨0, Nat.zero_le _, ?_⟩, fun i hi' => ?_⟩
  ·(exact hkL)
  ·have hi' : i ≤ sub.length := hi'
   have hPi := hPle i hi'
   by_cases hie : i = sub.length
   ·subst hie
    unfold pend
    by_cases hk4 : k = 4
    ·rw [if_pos hk4]
     (refine hkG ?_)
     (refine hkD ?_)
     refine vcall_pf hcp rfl rfl ?_
     (refine hkG ?_)
     have hc : 0 ≤ copiesI lo hi ∧ copiesI lo hi ≤ 64 := by
      unfold copiesI
      rcases hk with h | h | h | h | h
      ·omega
      ·omega
      ·omega
      ·omega
      ·obtain ⟨_, _, h1, h2, h3⟩ := h
       split <;> omega
     have hm : intAr .mul .i64 ((P sub.length : Nat) : Int) (copiesI lo hi) = ((P sub.length * (copiesI lo hi).toNat : Nat) : Int) := by
      have e : copiesI lo hi = (((copiesI lo hi).toNat : Nat) : Int) := by omega
      have hb : P sub.length * (copiesI lo hi).toNat ≤ 1000000 * 64 := Nat.mul_le_mul hPi (by omega)
      generalize (copiesI lo hi).toNat = c at *
      rw [e, mul64 (by rw [← Int.natCast_mul]; omega) (by rw [← Int.natCast_mul]; omega)]
      norm_cast
     refine ret_pf rfl rfl (congrArg (PV.int .i64) ?_)
     show min (intAr .mul .i64 ((P sub.length : Nat) : Int) (copiesI lo hi)) 1000000 = _
     rw [hm]
     omega
    ·rw [if_neg hk4]
     (refine hkG ?_)
     (refine hkD ?_)
     exact ret_pf rfl rfl rfl
   ·have hlt : i < sub.length := by omega
    obtain ⟨t, ht⟩ : ∃ t, sub[i]? = some t := ⟨_, List.getElem?_eq_getElem hlt⟩
    have hg := Tr.rows_get ht
    have hp := ih t (mem_get ht) (hT.sub t (mem_get ht)) (hsub t (mem_get ht))
    have hple := places_le t
    have hPS := PS i _ (map_get Tr.places ht)
    have h8 := t.take8
    generalize t.places = tp at *
    obtain ⟨tk, ts, tsub, tlo, thi⟩ := t
    (refine hkG ?_)
    (refine hkD ?_)
    refine ⟨_, hg, ?_⟩
    (refine hkG ?_)
    (refine hkG ?_)
    refine vcall_pf hp rfl rfl ?_
    (refine hkG ?_)
    refine ⟨i + 1, hlt, (show sub.length - (i + 1) < sub.length - i by omega), ?_⟩
    ((refine ⟨⟨rfl,rfl⟩,?_,?_⟩<;>((repeat'(first|exact TLe.nil|exact HLe.nil _|refine TLe.cons ?_ ?_|refine HLe.cons ?_ ?_|exact KLe.ptr rfl|exact KLe.sl rfl (.inl rfl)|exact KLe.csl rfl|exact KLe.mpr rfl|refine KLe.pe ?_|refine KLe.tup ?_|refine KLe.agg ?_|refine BLe.pe ?_|refine BLe.mpe ?_|refine BLe.ghe ?_|refine BLe.axe ?_ ?_|refine BLe.mx ?_|exact KLeL.nil|refine KLe.fn ?_ ?_|refine KLeL.cons ?_ ?_|exact KLe.und _|exact BLe.dead _))<;>(try with_reducible rfl)))<;>(first|rfl|((refine congrArg (PV.int IntKind.i64) ?_)<;>(first|rfl|omega|(rw [add64 (by omega) (by omega)];omega)|(rw [sub64 (by omega) (by omega)];omega)))|skip))
    rw [hPS]
    refine congrArg (PV.int .i64) ?_
    show min (intAr .add .i64 ((P i : Nat) : Int) ((tp : Nat) : Int)) 1000000 = _
    rw [add64 (by omega) (by omega)]
    unfold pstep
    omega
theorem bare_fn (T : Tr) (hT : T.Fit) (hn : T.nodes < 2 ^ 61) : PF Tryz.prog 228 [T.pv] (Part.none' T.told.empty).pv := by
 have he := rxEmpty_fn T hT hn
 generalize T.told.empty = e at *
 obtain ⟨k, s, sub, lo, hi⟩ := T
 refine pf_intro rf228_eq rmixed rfl ?_
 (refine hkG ?_)
 refine vcall_pf he rfl rfl ?_
 (refine hkG ?_)
 refine ret_ple rfl rfl ?_
 exact PLe.agg (.cons (.nil (.inl rfl)) (.cons (.nil (.inl rfl)) (.refl _)))
end Hk
namespace Hk
open Go Go.Proofs
set_option linter.unusedVariables false
set_option linter.unusedSimpArgs false
set_option maxRecDepth 100000
abbrev Bld := Mk → Mk × Part
def Mk.then' (m : Mk) (a b : Part) : Mk × Part := (m.behind a.last b.first, a.then' b)
def Part.or' (a b : Part) : Part := ⟨unionI a.first b.first, unionI a.last b.last, a.empty || b.empty⟩
def altStep (x : Mk × Part) (g : Bld) : Mk × Part := ((g x.1).1, x.2.or' (g x.1).2)
def catStep (x : Mk × Part) (g : Bld) : Mk × Part := (g x.1).1.then' x.2 (g x.1).2
def copyStep (g : Bld) (x : Mk × List Part) : Mk × List Part := ((g x.1).1, x.2 ++ [(g x.1).2])
def copyM (g : Bld) : Nat → Mk × List Part → Mk × List Part
 | 0, x => x
 | n + 1, x => copyM g n (copyStep g x)
def openM (lo hi : Int) (x : Mk × List Part) : Mk × List Part :=
 if hi < 0 then
  let k := x.2.length - 1
  let p := x.2.getD k (Part.none' false)
  (x.1.behind p.last p.first, x.2.set k { p with empty := p.empty || decide (lo = 0) })
 else x
def restStep (x : Mk × Part) (p : Part) : Mk × Part := ((x.1.then' p x.2).1, { (x.1.then' p x.2).2 with empty := true })
def mustStep (x : Mk × Part) (p : Part) : Mk × Part := x.1.then' x.2 p
def joinM (lo : Int) (x : Mk × List Part) : Mk × Part :=
 let n := min lo.toNat x.2.length
 let r := (x.2.drop n).reverse.foldl restStep (x.1, Part.none' true)
 let o := (x.2.take n).foldl mustStep (r.1, Part.none' true)
 o.1.then' o.2 r.2
def repM (g : Bld) (lo hi : Int) (m : Mk) : Mk × Part := joinM lo (openM lo hi (copyM g (copiesI lo hi).toNat (m, [])))
namespace Tr
mutual
def build (rule : Int) : Tr → Bld
 | .mk k s sub lo hi => fun m =>
   if k = 1 then (m.place s rule, m.placed)
   else if k = 3 then (buildL rule sub).foldl altStep (m, Part.none' false)
   else if k = 2 then (buildL rule sub).foldl catStep (m, Part.none' true)
   else if k = 4 then
    (if (Tr.mk k s sub lo hi).places = 0 then (m, Part.none' (Tr.mk k s sub lo hi).told.empty)
    else repM ((buildL rule sub).headD fun m => (m, Part.none' true)) lo hi m)
   else (m, Part.none' true)
def buildL (rule : Int) : List Tr → List Bld
 | [] => []
 | t :: r => t.build rule :: buildL rule r
end
theorem buildL_eq (rule : Int) : ∀ l : List Tr, buildL rule l = l.map (build rule)
 | [] => rfl
 | t :: r => by rw [buildL, buildL_eq rule r]; rfl
end Tr
end Hk
namespace Hk
open Go Go.Proofs
theorem Mk.Ok.behind {m : Mk} (h : m.Ok) {last first : List Int} (hl : Asc m.n last) (hf : Asc m.n first) : (m.behind last first).Ok := by
 have := behind_ok (n := m.n) hf last m.follow ⟨h.follow, h.asc⟩ hl.2
 exact ⟨h.rules, this.1, h.ends, this.2⟩
theorem Mk.Ok.place {m : Mk} (h : m.Ok) (s : Set4) (rule : Int) : (m.place s rule).Ok := by
 have hN : (m.place s rule).n = m.n + 1 := by simp [Mk.place, Mk.n]
 refine ⟨by rw [hN]; simp [Mk.place, h.rules], by rw [hN]; simp [Mk.place, h.follow], by rw [hN]; simp [Mk.place, h.ends], fun l hl => ?_⟩
 rw [hN]
 simp only [Mk.place, List.mem_append, List.mem_singleton] at hl
 rcases hl with hl | rfl
 ·exact (h.asc l hl).more (by omega)
 ·exact Asc.nil _
theorem Part.Ok.then' {n : Nat} {a b : Part} (ha : a.Ok n) (hb : b.Ok n) : (a.then' b).Ok n := by
 refine ⟨?_, ?_⟩
 ·show Asc n (if a.empty then unionI a.first b.first else a.first)
  split
  ·exact ha.1.union hb.1
  ·exact ha.1
 ·show Asc n (if b.empty then unionI b.last a.last else b.last)
  split
  ·exact hb.2.union ha.2
  ·exact hb.2
theorem Part.Ok.or' {n : Nat} {a b : Part} (ha : a.Ok n) (hb : b.Ok n) : (a.or' b).Ok n := ⟨ha.1.union hb.1, ha.2.union hb.2⟩
theorem Part.Ok.none' (n : Nat) (e : Bool) : (Part.none' e).Ok n := ⟨Asc.nil n, Asc.nil n⟩
theorem Part.Ok.more {n k : Nat} {a : Part} (h : a.Ok n) (hk : n ≤ k) : a.Ok k := ⟨h.1.more hk, h.2.more hk⟩
def Good (g : Bld) (w : Nat) : Prop := ∀ m : Mk, m.Ok → m.n + w ≤ 2000 → (g m).1.Ok ∧ (g m).1.n = m.n + w ∧ (g m).2.Ok (g m).1.n
theorem then_ok {m : Mk} (h : m.Ok) {a b : Part} (ha : a.Ok m.n) (hb : b.Ok m.n) : (m.then' a b).1.Ok ∧ (m.then' a b).1.n = m.n ∧ (m.then' a b).2.Ok m.n :=
 ⟨h.behind ha.2 hb.1, rfl, ha.then' hb⟩
theorem pfold_sum : ∀ (l : List Nat) (z : Nat), l.foldl pstep z ≤ 2000 → l.foldl pstep z = z + l.sum
 | [], z, _ => by simp
 | x :: r, z, h => by
   rw [List.foldl_cons] at h ⊢
   have := pfold_sum r _ h
   rw [this, List.sum_cons]
   have hz : pstep z x ≤ 2000 := by rw [this] at h; omega
   unfold pstep at hz ⊢
   omega
theorem sum_take_le : ∀ (l : List Nat) (i : Nat), (l.take i).sum ≤ l.sum
 | [], i => by simp
 | x :: r, 0 => by simp
 | x :: r, i + 1 => by
   have := sum_take_le r i
   simp only [List.take_succ_cons, List.sum_cons]; omega
def GoodStep (step : Mk × Part → Bld → Mk × Part) : Prop := ∀ (x : Mk × Part) (g : Bld) (w : Nat), Good g w → x.1.Ok → x.2.Ok x.1.n → x.1.n + w ≤ 2000 →
 (step x g).1.Ok ∧ (step x g).1.n = x.1.n + w ∧ (step x g).2.Ok (step x g).1.n
theorem alt_good : GoodStep altStep := fun x g w hg h1 h2 h3 => by
 obtain ⟨a, b, c⟩ := hg x.1 h1 h3
 exact ⟨a, b, (h2.more (by show x.1.n ≤ (g x.1).1.n; rw [b]; omega)).or' c⟩
theorem cat_good : GoodStep catStep := fun x g w hg h1 h2 h3 => by
 obtain ⟨a, b, c⟩ := hg x.1 h1 h3
 obtain ⟨d, e, f⟩ := then_ok a (h2.more (by rw [b]; omega)) c
 exact ⟨d, by show ((g x.1).1.then' x.2 (g x.1).2).1.n = _; rw [e, b], by show Part.Ok ((g x.1).1.then' x.2 (g x.1).2).1.n _; rw [e]; exact f⟩
theorem steps_inv {step : Mk × Part → Bld → Mk × Part} (hs : GoodStep step) {rule : Int} {sub : List Tr} (ih : ∀ t ∈ sub, Good (t.build rule) t.places) {m : Mk} {e : Bool} (hm : m.Ok)
 (hn : m.n + (sub.map Tr.places).sum ≤ 2000) {P : Nat → Mk × Part} (P0 : P 0 = (m, Part.none' e)) (PS : ∀ i t, sub[i]? = some t → P (i + 1) = step (P i) (t.build rule)) :
 ∀ i, i ≤ sub.length → (P i).1.Ok ∧ (P i).1.n = m.n + ((sub.map Tr.places).take i).sum ∧ (P i).2.Ok (P i).1.n
 | 0, _ => by rw [P0]; exact ⟨hm, by simp, Part.Ok.none' _ _⟩
 | i + 1, hi => by
   obtain ⟨a, b, c⟩ := steps_inv hs ih hm hn P0 PS i (by omega)
   have hg := List.getElem?_eq_getElem (show i < sub.length by omega)
   have hst := sum_take (map_get Tr.places hg)
   have hle := sum_take_le (sub.map Tr.places) (i + 1)
   obtain ⟨d, f, g⟩ := hs (P i) _ _ (ih _ (mem_get hg)) a c (by omega)
   rw [PS i _ hg]
   exact ⟨d, by rw [f]; omega, g⟩
end Hk
namespace Hk
open Go Go.Proofs
set_option linter.unusedVariables false
set_option linter.unusedSimpArgs false
set_option maxRecDepth 100000
def TreeC (T : Tr) (rule : Int) : Prop := ∀ m : Mk, m.Ok → m.n + T.places ≤ 2000 →
 Fn Tryz.prog 116 [.ptr 0 6 0 0, .p T.pv, .p (i64 rule)] m.H [1, 2, 3, 4] (fun r H => r = .p (T.build rule m).2.pv ∧ H = (T.build rule m).1.H)
set_option maxHeartbeats 4000000 in
theorem tree1_fn (s : Set4) (sub : List Tr) (lo hi rule : Int) : TreeC (Tr.mk 1 s sub lo hi) rule := by
 intro m hm hn
 have hn : m.n + 1 ≤ 2000 := by rw [Tr.places_mk, if_pos rfl] at hn; exact hn
 have hp := place_fn m hm (by omega) s rule
 have hb : (Tr.mk 1 s sub lo hi).build rule m = (m.place s rule, m.placed) := by rw [Tr.build]; exact if_pos rfl
 rw [hb]
 refine f_intro rf116_eq rmixed rfl ?_
 (refine hkG ?_)
 (refine hkC ?_)
 refine vcall_mv [0, 1, 2, 3, 4] hp rfl rfl (KLeL.cons (KLe.ptr rfl) (KLeL.cons (KLe.pe rfl) (KLeL.cons (KLe.pe rfl) KLeL.nil))) ?_
 rintro r H ⟨rfl, rfl⟩
 (refine hkG ?_)
 (refine ⟨_,_,⟨rfl,rfl⟩,⟨rfl,rfl⟩,?_,?_⟩<;>((repeat'(first|exact TLe.nil|exact HLe.nil _|refine TLe.cons ?_ ?_|refine HLe.cons ?_ ?_|exact KLe.ptr rfl|exact KLe.sl rfl (.inl rfl)|exact KLe.csl rfl|exact KLe.mpr rfl|refine KLe.pe ?_|refine KLe.tup ?_|refine KLe.agg ?_|refine BLe.pe ?_|refine BLe.mpe ?_|refine BLe.ghe ?_|refine BLe.axe ?_ ?_|refine BLe.mx ?_|exact KLeL.nil|refine KLe.fn ?_ ?_|refine KLeL.cons ?_ ?_|exact KLe.und _|exact BLe.dead _))<;>(try with_reducible rfl)))
 all_goals rfl
theorem build3 (s sub lo hi rule m) : (Tr.mk 3 s sub lo hi).build rule m = (sub.map (Tr.build rule)).foldl altStep (m, Part.none' false) := by
 rw [Tr.build, Tr.buildL_eq]; exact (if_neg (by decide)).trans (if_pos rfl)
theorem build2 (s sub lo hi rule m) : (Tr.mk 2 s sub lo hi).build rule m = (sub.map (Tr.build rule)).foldl catStep (m, Part.none' true) := by
 rw [Tr.build, Tr.buildL_eq]; exact (if_neg (by decide)).trans ((if_neg (by decide)).trans (if_pos rfl))
theorem build0 (s sub lo hi rule m) : (Tr.mk 0 s sub lo hi).build rule m = (m, Part.none' true) := by
 rw [Tr.build]; exact (if_neg (by decide)).trans ((if_neg (by decide)).trans ((if_neg (by decide)).trans (if_neg (by decide))))
def Part.cells (x : Part) : List AV := [.p (isl1 x.first), .p (isl1 x.last), .p (.b x.empty)]
set_option maxHeartbeats 4000000 in
theorem tree0_fn (s : Set4) (sub : List Tr) (lo hi rule : Int) : TreeC (Tr.mk 0 s sub lo hi) rule := by
 intro m hm hn
 rw [build0]
 refine f_intro rf116_eq rmixed rfl ?_
 (refine hkG ?_)
 (refine hkC ?_)
 refine ⟨.p (Part.none' true).pv, m.H, ⟨rfl, rfl⟩, ⟨rfl, rfl⟩, KLe.p (PLe.agg (.cons (.nil (.inl rfl)) (.cons (.nil (.inl rfl)) (.refl _)))), ?_⟩
 (((repeat'(first|exact TLe.nil|exact HLe.nil _|refine TLe.cons ?_ ?_|refine HLe.cons ?_ ?_|exact KLe.ptr rfl|exact KLe.sl rfl (.inl rfl)|exact KLe.csl rfl|exact KLe.mpr rfl|refine KLe.pe ?_|refine KLe.tup ?_|refine KLe.agg ?_|refine BLe.pe ?_|refine BLe.mpe ?_|refine BLe.ghe ?_|refine BLe.axe ?_ ?_|refine BLe.mx ?_|exact KLeL.nil|refine KLe.fn ?_ ?_|refine KLeL.cons ?_ ?_|exact KLe.und _|exact BLe.dead _))<;>(try with_reducible rfl)))
theorem places3 (s sub lo hi) (h : (Tr.mk 3 s sub lo hi).places ≤ 2000) : (Tr.mk 3 s sub lo hi).places = (sub.map Tr.places).sum := by
 have e : (Tr.mk 3 s sub lo hi).places = (sub.map Tr.places).foldl pstep 0 := by rw [Tr.places_mk]; exact (if_neg (by decide)).trans (if_neg (by decide))
 rw [e] at h ⊢
 rw [pfold_sum _ _ h]; omega
theorem places2 (s sub lo hi) (h : (Tr.mk 2 s sub lo hi).places ≤ 2000) : (Tr.mk 2 s sub lo hi).places = (sub.map Tr.places).sum := by
 have e : (Tr.mk 2 s sub lo hi).places = (sub.map Tr.places).foldl pstep 0 := by rw [Tr.places_mk]; exact (if_neg (by decide)).trans (if_neg (by decide))
 rw [e] at h ⊢
 rw [pfold_sum _ _ h]; omega
set_option maxHeartbeats 8000000 in
theorem tree3_fn (s : Set4) (sub : List Tr) (lo hi rule : Int) (hlen : sub.length < 2 ^ 60) (ih : ∀ t ∈ sub, TreeC t rule) (hg : ∀ t ∈ sub, Good (t.build rule) t.places) : TreeC (Tr.mk 3 s sub lo hi) rule := by
 intro m hm hn
 have hn2 := places3 s sub lo hi (by omega)
 rw [hn2] at hn
 obtain ⟨P, P0, PL, PS⟩ := fold_seq altStep (m, Part.none' false) (sub.map (Tr.build rule))
 rw [List.length_map] at PL
 have hinv := steps_inv alt_good hg hm hn P0 (fun i t ht => PS i _ (map_get (Tr.build rule) ht))
 have hl := Tr.rows_len sub
 rw [build3, ← PL]
 refine f_intro rf116_eq rmixed rfl ?_
 (refine hkG ?_)
 (refine hkC ?_)
 refine ⟨[], Nat, fun i => ⟨[(0, .ptr 0 6 0 0), (2, .p (i64 rule)), (6, .ptr 6 3 0 0), (7, .ptr 7 3 0 0), (26, .p (.isl 8 (Tr.rowsL sub) none)), (27, .p (i64 sub.length)), (28, .p (i64 i))],
  (P i).1.H ++ [.dead, .mx [.p nilSl, .p nilSl, .p (.b false)], .mx (P i).2.cells]⟩, fun i => i ≤ sub.length, fun i => sub.length - i, ⟨0, Nat.zero_le _, ?_⟩, fun i hi' => ?_⟩
 ·show StLe _ _ ⟨_, (P 0).1.H ++ [.dead, .mx _, .mx (P 0).2.cells]⟩
  rw [P0]
  refine ⟨⟨rfl, rfl⟩, ?_, ?_⟩
  ·(((repeat'(first|exact TLe.nil|exact HLe.nil _|refine TLe.cons ?_ ?_|refine HLe.cons ?_ ?_|exact KLe.ptr rfl|exact KLe.sl rfl (.inl rfl)|exact KLe.csl rfl|exact KLe.mpr rfl|refine KLe.pe ?_|refine KLe.tup ?_|refine KLe.agg ?_|refine BLe.pe ?_|refine BLe.mpe ?_|refine BLe.ghe ?_|refine BLe.axe ?_ ?_|refine BLe.mx ?_|exact KLeL.nil|refine KLe.fn ?_ ?_|refine KLeL.cons ?_ ?_|exact KLe.und _|exact BLe.dead _))<;>(try with_reducible rfl)))
   ·exact congrArg (fun n : Nat => i64 n) hl
   ·rfl
  ·refine .cons ?_ (.cons ?_ (.cons ?_ (.cons ?_ (.cons ?_ (.cons (.dead _) (.cons ?_ (.cons (BLe.mx (KLeL.cons (KLe.p (PLe.nil (.inl rfl))) (KLeL.cons (KLe.p (PLe.nil (.inl rfl))) (KLeL.cons (KLe.pe rfl) KLeL.nil)))) (.nil _))))))))
   all_goals (((repeat'(first|exact TLe.nil|exact HLe.nil _|refine TLe.cons ?_ ?_|refine HLe.cons ?_ ?_|exact KLe.ptr rfl|exact KLe.sl rfl (.inl rfl)|exact KLe.csl rfl|exact KLe.mpr rfl|refine KLe.pe ?_|refine KLe.tup ?_|refine KLe.agg ?_|refine BLe.pe ?_|refine BLe.mpe ?_|refine BLe.ghe ?_|refine BLe.axe ?_ ?_|refine BLe.mx ?_|exact KLeL.nil|refine KLe.fn ?_ ?_|refine KLeL.cons ?_ ?_|exact KLe.und _|exact BLe.dead _))<;>(try with_reducible rfl)))
   all_goals rfl
 ·have hi' : i ≤ sub.length := hi'
  obtain ⟨a, b, c⟩ := hinv i hi'
  by_cases hie : i = sub.length
  ·subst hie
   (refine hkG ?_)
   (refine hkD ?_)
   (refine ⟨_,_,⟨rfl,rfl⟩,⟨rfl,rfl⟩,?_,?_⟩<;>((repeat'(first|exact TLe.nil|exact HLe.nil _|refine TLe.cons ?_ ?_|refine HLe.cons ?_ ?_|exact KLe.ptr rfl|exact KLe.sl rfl (.inl rfl)|exact KLe.csl rfl|exact KLe.mpr rfl|refine KLe.pe ?_|refine KLe.tup ?_|refine KLe.agg ?_|refine BLe.pe ?_|refine BLe.mpe ?_|refine BLe.ghe ?_|refine BLe.axe ?_ ?_|refine BLe.mx ?_|exact KLeL.nil|refine KLe.fn ?_ ?_|refine KLeL.cons ?_ ?_|exact KLe.und _|exact BLe.dead _))<;>(try with_reducible rfl)))
   all_goals rfl
  ·have hlt : i < sub.length := by omega
   obtain ⟨t, ht⟩ : ∃ t, sub[i]? = some t := ⟨_, List.getElem?_eq_getElem hlt⟩
   have hgt := Tr.rows_get ht
   have hst := sum_take (map_get Tr.places ht)
   have hle := sum_take_le (sub.map Tr.places) (i + 1)
   have hih := ih t (mem_get ht) (P i).1 a (by omega)
   obtain ⟨d, e, f⟩ := hg t (mem_get ht) (P i).1 a (by omega)
   have hPS := PS i _ (map_get (Tr.build rule) ht)
   have l1 := c.1.len
   have l2 := c.2.len
   have l3 := f.1.len
   have l4 := f.2.len
   have hb2 := both2_fn (P i).2.first (P i).2.last (t.build rule (P i).1).2.first (t.build rule (P i).1).2.last (P i).2.empty (by omega) (by omega) (by omega) (by omega)
   have h8 := t.take8
   unfold altStep at hPS
   generalize t.build rule (P i).1 = q at *
   obtain ⟨tk, ts, tsub, tlo, thi⟩ := t
   (refine hkG ?_)
   (refine hkD ?_)
   refine ⟨_, hgt, ?_⟩
   (refine hkG ?_)
   refine vcall_mv [0, 1, 2, 3, 4] hih rfl rfl (KLeL.cons (KLe.ptr rfl) (KLeL.cons (KLe.pe rfl) (KLeL.cons (KLe.pe rfl) KLeL.nil))) ?_
   rintro r H ⟨rfl, rfl⟩
   (refine hkG ?_)
   refine vcall_own [7] hb2 rfl rfl (KLeL.cons (KLe.ptr rfl) (KLeL.cons (KLe.pe rfl) KLeL.nil)) ?_
   rintro r H ⟨rfl, rfl⟩
   (refine hkG ?_)
   refine bk_split (fun hbe => ?_) (fun hbe => ?_)
   ·(refine hkG ?_)
    refine ⟨i + 1, hlt, (show sub.length - (i + 1) < sub.length - i by omega), ?_⟩
    show StLe _ _ ⟨_, (P (i + 1)).1.H ++ [.dead, .mx _, .mx (P (i + 1)).2.cells]⟩
    rw [hPS]
    ((refine ⟨⟨rfl,rfl⟩,?_,?_⟩<;>((repeat'(first|exact TLe.nil|exact HLe.nil _|refine TLe.cons ?_ ?_|refine HLe.cons ?_ ?_|exact KLe.ptr rfl|exact KLe.sl rfl (.inl rfl)|exact KLe.csl rfl|exact KLe.mpr rfl|refine KLe.pe ?_|refine KLe.tup ?_|refine KLe.agg ?_|refine BLe.pe ?_|refine BLe.mpe ?_|refine BLe.ghe ?_|refine BLe.axe ?_ ?_|refine BLe.mx ?_|exact KLeL.nil|refine KLe.fn ?_ ?_|refine KLeL.cons ?_ ?_|exact KLe.und _|exact BLe.dead _))<;>(try with_reducible rfl)))<;>(first|rfl|((refine congrArg (PV.int IntKind.i64) ?_)<;>(first|rfl|omega|(rw [add64 (by omega) (by omega)];omega)|(rw [sub64 (by omega) (by omega)];omega)))|skip))
    all_goals (refine congrArg PV.b ?_; show _ = ((P i).2.empty || q.2.empty); rw [hbe]; rfl)
   ·(refine hkG ?_)
    refine ⟨i + 1, hlt, (show sub.length - (i + 1) < sub.length - i by omega), ?_⟩
    show StLe _ _ ⟨_, (P (i + 1)).1.H ++ [.dead, .mx _, .mx (P (i + 1)).2.cells]⟩
    rw [hPS]
    ((refine ⟨⟨rfl,rfl⟩,?_,?_⟩<;>((repeat'(first|exact TLe.nil|exact HLe.nil _|refine TLe.cons ?_ ?_|refine HLe.cons ?_ ?_|exact KLe.ptr rfl|exact KLe.sl rfl (.inl rfl)|exact KLe.csl rfl|exact KLe.mpr rfl|refine KLe.pe ?_|refine KLe.tup ?_|refine KLe.agg ?_|refine BLe.pe ?_|refine BLe.mpe ?_|refine BLe.ghe ?_|refine BLe.axe ?_ ?_|refine BLe.mx ?_|exact KLeL.nil|refine KLe.fn ?_ ?_|refine KLeL.cons ?_ ?_|exact KLe.und _|exact BLe.dead _))<;>(try with_reducible rfl)))<;>(first|rfl|((refine congrArg (PV.int IntKind.i64) ?_)<;>(first|rfl|omega|(rw [add64 (by omega) (by omega)];omega)|(rw [sub64 (by omega) (by omega)];omega)))|skip))
    all_goals (refine congrArg PV.b ?_; show _ = ((P i).2.empty || q.2.empty); rw [hbe]; rfl)
end Hk
namespace Hk
open Go Go.Proofs
set_option linter.unusedVariables false
set_option linter.unusedSimpArgs false
set_option maxRecDepth 100000
set_option maxHeartbeats 8000000 in
theorem tree2_fn (s : Set4) (sub : List Tr) (lo hi rule : Int) (hlen : sub.length < 2 ^ 60) (ih : ∀ t ∈ sub, TreeC t rule) (hg : ∀ t ∈ sub, Good (t.build rule) t.places) : TreeC (Tr.mk 2 s sub lo hi) rule := by
 intro m hm hn
 have hn2 := places2 s sub lo hi (by omega)
 rw [hn2] at hn
 obtain ⟨P, P0, PL, PS⟩ := fold_seq catStep (m, Part.none' true) (sub.map (Tr.build rule))
 rw [List.length_map] at PL
 have hinv := steps_inv cat_good hg hm hn P0 (fun i t ht => PS i _ (map_get (Tr.build rule) ht))
 have hl := Tr.rows_len sub
 rw [build2, ← PL]
 refine f_intro rf116_eq rmixed rfl ?_
 (refine hkG ?_)
 (refine hkC ?_)
 refine ⟨[], Nat, fun i => ⟨[(0, .ptr 0 6 0 0), (2, .p (i64 rule)), (6, .ptr 6 3 0 0), (11, .ptr 7 3 0 0), (53, .p (.isl 8 (Tr.rowsL sub) none)), (54, .p (i64 sub.length)), (55, .p (i64 i))],
  (P i).1.H ++ [.dead, .mx [.p nilSl, .p nilSl, .p (.b false)], .mx (P i).2.cells]⟩, fun i => i ≤ sub.length, fun i => sub.length - i, ⟨0, Nat.zero_le _, ?_⟩, fun i hi' => ?_⟩
 ·show StLe _ _ ⟨_, (P 0).1.H ++ [.dead, .mx _, .mx (P 0).2.cells]⟩
  rw [P0]
  refine ⟨⟨rfl, rfl⟩, ?_, ?_⟩
  ·(((repeat'(first|exact TLe.nil|exact HLe.nil _|refine TLe.cons ?_ ?_|refine HLe.cons ?_ ?_|exact KLe.ptr rfl|exact KLe.sl rfl (.inl rfl)|exact KLe.csl rfl|exact KLe.mpr rfl|refine KLe.pe ?_|refine KLe.tup ?_|refine KLe.agg ?_|refine BLe.pe ?_|refine BLe.mpe ?_|refine BLe.ghe ?_|refine BLe.axe ?_ ?_|refine BLe.mx ?_|exact KLeL.nil|refine KLe.fn ?_ ?_|refine KLeL.cons ?_ ?_|exact KLe.und _|exact BLe.dead _))<;>(try with_reducible rfl)))
   ·exact congrArg (fun n : Nat => i64 n) hl
   ·rfl
  ·refine .cons ?_ (.cons ?_ (.cons ?_ (.cons ?_ (.cons ?_ (.cons (.dead _) (.cons ?_ (.cons (BLe.mx (KLeL.cons (KLe.p (PLe.nil (.inl rfl))) (KLeL.cons (KLe.p (PLe.nil (.inl rfl))) (KLeL.cons (KLe.pe rfl) KLeL.nil)))) (.nil _))))))))
   all_goals (((repeat'(first|exact TLe.nil|exact HLe.nil _|refine TLe.cons ?_ ?_|refine HLe.cons ?_ ?_|exact KLe.ptr rfl|exact KLe.sl rfl (.inl rfl)|exact KLe.csl rfl|exact KLe.mpr rfl|refine KLe.pe ?_|refine KLe.tup ?_|refine KLe.agg ?_|refine BLe.pe ?_|refine BLe.mpe ?_|refine BLe.ghe ?_|refine BLe.axe ?_ ?_|refine BLe.mx ?_|exact KLeL.nil|refine KLe.fn ?_ ?_|refine KLeL.cons ?_ ?_|exact KLe.und _|exact BLe.dead _))<;>(try with_reducible rfl)))
   all_goals rfl
 ·have hi' : i ≤ sub.length := hi'
  obtain ⟨a, b, c⟩ := hinv i hi'
  by_cases hie : i = sub.length
  ·subst hie
   (refine hkG ?_)
   (refine hkD ?_)
   (refine ⟨_,_,⟨rfl,rfl⟩,⟨rfl,rfl⟩,?_,?_⟩<;>((repeat'(first|exact TLe.nil|exact HLe.nil _|refine TLe.cons ?_ ?_|refine HLe.cons ?_ ?_|exact KLe.ptr rfl|exact KLe.sl rfl (.inl rfl)|exact KLe.csl rfl|exact KLe.mpr rfl|refine KLe.pe ?_|refine KLe.tup ?_|refine KLe.agg ?_|refine BLe.pe ?_|refine BLe.mpe ?_|refine BLe.ghe ?_|refine BLe.axe ?_ ?_|refine BLe.mx ?_|exact KLeL.nil|refine KLe.fn ?_ ?_|refine KLeL.cons ?_ ?_|exact KLe.und _|exact BLe.dead _))<;>(try with_reducible rfl)))
   all_goals rfl
  ·have hlt : i < sub.length := by omega
   obtain ⟨t, ht⟩ : ∃ t, sub[i]? = some t := ⟨_, List.getElem?_eq_getElem hlt⟩
   have hgt := Tr.rows_get ht
   have hst := sum_take (map_get Tr.places ht)
   have hle := sum_take_le (sub.map Tr.places) (i + 1)
   have hih := ih t (mem_get ht) (P i).1 a (by omega)
   obtain ⟨d, e, f⟩ := hg t (mem_get ht) (P i).1 a (by omega)
   have hPS := PS i _ (map_get (Tr.build rule) ht)
   have hth := then2_fn (t.build rule (P i).1).1 d (by omega) (P i).2 (t.build rule (P i).1).2 (c.more (by omega)) f
   have h8 := t.take8
   unfold catStep Mk.then' at hPS
   generalize t.build rule (P i).1 = q at *
   obtain ⟨tk, ts, tsub, tlo, thi⟩ := t
   (refine hkG ?_)
   (refine hkD ?_)
   refine ⟨_, hgt, ?_⟩
   (refine hkG ?_)
   refine And.intro ?_ ?_
   ·(refine hkG ?_)
    refine vcall_mv [0, 1, 2, 3, 4] hih rfl rfl (KLeL.cons (KLe.ptr rfl) (KLeL.cons (KLe.pe rfl) (KLeL.cons (KLe.pe rfl) KLeL.nil))) ?_
    rintro r H ⟨rfl, rfl⟩
    (refine hkG ?_)
    refine vcall_own [0, 1, 2, 3, 4] hth rfl rfl (KLeL.cons (KLe.ptr rfl) (KLeL.cons (KLe.pe rfl) (KLeL.cons (KLe.pe rfl) KLeL.nil))) ?_
    rintro r H ⟨rfl, rfl⟩
    (refine hkG ?_)
    refine ⟨i + 1, hlt, (show sub.length - (i + 1) < sub.length - i by omega), ?_⟩
    show StLe _ _ ⟨_, (P (i + 1)).1.H ++ [.dead, .mx _, .mx (P (i + 1)).2.cells]⟩
    rw [hPS]
    (exact hkL)
   ·(refine hkG ?_)
    refine vcall_mv [0, 1, 2, 3, 4] hih rfl rfl (KLeL.cons (KLe.ptr rfl) (KLeL.cons (KLe.pe rfl) (KLeL.cons (KLe.pe rfl) KLeL.nil))) ?_
    rintro r H ⟨rfl, rfl⟩
    (refine hkG ?_)
    refine vcall_own [0, 1, 2, 3, 4] hth rfl rfl (KLeL.cons (KLe.ptr rfl) (KLeL.cons (KLe.pe rfl) (KLeL.cons (KLe.pe rfl) KLeL.nil))) ?_
    rintro r H ⟨rfl, rfl⟩
    (refine hkG ?_)
    refine ⟨i + 1, hlt, (show sub.length - (i + 1) < sub.length - i by omega), ?_⟩
    show StLe _ _ ⟨_, (P (i + 1)).1.H ++ [.dead, .mx _, .mx (P (i + 1)).2.cells]⟩
    rw [hPS]
    (exact hkL)
end Hk
namespace Hk
open Go Go.Proofs
set_option linter.unusedVariables false
set_option linter.unusedSimpArgs false
set_option maxRecDepth 100000
theorem copyM_succ (g : Bld) : ∀ (n : Nat) (x : Mk × List Part), copyM g (n + 1) x = copyStep g (copyM g n x)
 | 0, x => rfl
 | n + 1, x => by rw [copyM, copyM_succ g n, ← copyM]
structure LOk (n : Nat) (x : Mk × List Part) : Prop where
 ok : x.1.Ok
 sz : x.1.n = n
 ps : ∀ p ∈ x.2, p.Ok n
theorem copies_ok {g : Bld} {w : Nat} (hg : Good g w) {m : Mk} (hm : m.Ok) : ∀ i, m.n + w * i ≤ 2000 → LOk (m.n + w * i) (copyM g i (m, [])) ∧ (copyM g i (m, [])).2.length = i
 | 0, _ => ⟨⟨hm, rfl, fun p h => by cases h⟩, rfl⟩
 | i + 1, h => by
   have e : w * (i + 1) = w * i + w := Nat.mul_succ w i
   obtain ⟨⟨a, b, c⟩, d⟩ := copies_ok hg hm i (by omega)
   obtain ⟨f1, f2, f3⟩ := hg (copyM g i (m, [])).1 a (by omega)
   rw [copyM_succ]
   refine ⟨⟨f1, by show (g _).1.n = _; omega, fun p hp => ?_⟩, by simp [copyStep, d]⟩
   simp only [copyStep, List.mem_append, List.mem_singleton] at hp
   rcases hp with hp | rfl
   ·exact (c p hp).more (by omega)
   ·have e2 : (g (copyM g i (m, [])).1).1.n = m.n + w * (i + 1) := by omega
    rw [← e2]; exact f3
theorem getD_mem {l : List Part} {k : Nat} {z : Part} (h : k < l.length) : l.getD k z ∈ l := by
 rw [List.getD_eq_getElem?_getD, List.getElem?_eq_getElem h]; exact List.getElem_mem h
theorem open_ok {lo hi : Int} {n : Nat} {x : Mk × List Part} (h : LOk n x) (hl : x.2 ≠ []) : LOk n (openM lo hi x) ∧ (openM lo hi x).2.length = x.2.length := by
 unfold openM
 split
 ·have hpos := List.length_pos_iff.2 hl
  have hp := h.ps _ (getD_mem (l := x.2) (k := x.2.length - 1) (z := Part.none' false) (by omega))
  refine ⟨⟨h.ok.behind (by rw [h.sz]; exact hp.2) (by rw [h.sz]; exact hp.1), h.sz, fun p hpm => ?_⟩, by simp⟩
  rcases List.mem_or_eq_of_mem_set hpm with hq | rfl
  ·exact h.ps p hq
  ·exact ⟨hp.1, hp.2⟩
 ·exact ⟨h, rfl⟩
structure POk (n : Nat) (x : Mk × Part) : Prop where
 ok : x.1.Ok
 sz : x.1.n = n
 p : x.2.Ok n
theorem rest_ok {n : Nat} {x : Mk × Part} (h : POk n x) {p : Part} (hp : p.Ok n) : POk n (restStep x p) := by
 obtain ⟨a, b, c⟩ := then_ok h.ok (a := p) (b := x.2) (by rw [h.sz]; exact hp) (by rw [h.sz]; exact h.p)
 rw [h.sz] at b c
 exact ⟨a, b, ⟨c.1, c.2⟩⟩
theorem must_ok {n : Nat} {x : Mk × Part} (h : POk n x) {p : Part} (hp : p.Ok n) : POk n (mustStep x p) := by
 obtain ⟨a, b, c⟩ := then_ok h.ok (a := x.2) (b := p) (by rw [h.sz]; exact h.p) (by rw [h.sz]; exact hp)
 rw [h.sz] at b c
 exact ⟨a, b, c⟩
theorem seq_ok {n : Nat} {f : Mk × Part → Part → Mk × Part} (hf : ∀ x p, POk n x → p.Ok n → POk n (f x p)) {l : List Part} (hl : ∀ p ∈ l, p.Ok n) {z : Mk × Part} (hz : POk n z) {P : Nat → Mk × Part} (P0 : P 0 = z)
 (PS : ∀ i x, l[i]? = some x → P (i + 1) = f (P i) x) : ∀ i, i ≤ l.length → POk n (P i)
 | 0, _ => by rw [P0]; exact hz
 | i + 1, h => by
   have hg := List.getElem?_eq_getElem (show i < l.length by omega)
   rw [PS i _ hg]
   exact hf _ _ (seq_ok hf hl hz P0 PS i (by omega)) (hl _ (List.mem_of_getElem? hg))
theorem fold_ok {n : Nat} {f : Mk × Part → Part → Mk × Part} (hf : ∀ x p, POk n x → p.Ok n → POk n (f x p)) : ∀ (l : List Part) (z : Mk × Part), (∀ p ∈ l, p.Ok n) → POk n z → POk n (l.foldl f z)
 | [], z, _, hz => hz
 | p :: l, z, hl, hz => fold_ok hf l _ (fun q hq => hl q (by simp [hq])) (hf z p hz (hl p (by simp)))
theorem join_ok {lo : Int} {n : Nat} {x : Mk × List Part} (h : LOk n x) : POk n (joinM lo x) := by
 unfold joinM
 have h1 : POk n (((x.2.drop (min lo.toNat x.2.length)).reverse).foldl restStep (x.1, Part.none' true)) :=
  fold_ok (fun x p hx hp => rest_ok hx hp) _ _ (fun p hp => h.ps p (List.mem_of_mem_drop (List.mem_reverse.1 hp))) ⟨h.ok, h.sz, Part.Ok.none' _ _⟩
 have h2 := fold_ok (n := n) (fun x p hx hp => must_ok hx hp) (x.2.take (min lo.toNat x.2.length)) ((((x.2.drop (min lo.toNat x.2.length)).reverse).foldl restStep (x.1, Part.none' true)).1, Part.none' true)
  (fun p hp => h.ps p (List.mem_of_mem_take hp)) ⟨h1.ok, h1.sz, Part.Ok.none' _ _⟩
 exact must_ok h2 h1.p
theorem rep_good {g : Bld} {w : Nat} (hg : Good g w) {lo hi : Int} (hc : 1 ≤ (copiesI lo hi).toNat) : Good (repM g lo hi) (w * (copiesI lo hi).toNat) := fun m hm hn => by
 obtain ⟨h1, h2⟩ := copies_ok hg hm (copiesI lo hi).toNat hn
 obtain ⟨h3, _⟩ := open_ok (lo := lo) (hi := hi) h1 (fun e => by rw [e] at h2; simp at h2; omega)
 have h4 := join_ok (lo := lo) h3
 unfold repM
 exact ⟨h4.ok, h4.sz, by rw [h4.sz]; exact h4.p⟩
def Part.row (x : Part) : List PV := [isl1 x.first, isl1 x.last, .b x.empty]
theorem row_get {l : List Part} {k : Nat} {p : Part} (h : l[k]? = some p) : (l.map Part.row)[k]? = some p.row := map_get Part.row h
theorem places4 (s t lo hi) (h : (Tr.mk 4 s [t] lo hi).places ≤ 2000) : (Tr.mk 4 s [t] lo hi).places = t.places * (copiesI lo hi).toNat := by
 have e : (Tr.mk 4 s [t] lo hi).places = min (min (0 + t.places) 1000000 * (copiesI lo hi).toNat) 1000000 := by
  rw [Tr.places_mk]; rfl
 have := places_le t
 rw [show min (0 + t.places) 1000000 = t.places by omega] at e
 omega
theorem build4 (s t lo hi rule m) : (Tr.mk 4 s [t] lo hi).build rule m = if (Tr.mk 4 s [t] lo hi).places = 0 then (m, Part.none' (Tr.mk 4 s [t] lo hi).told.empty) else repM (t.build rule) lo hi m := by
 rw [Tr.build, Tr.buildL_eq]; exact (if_neg (by decide)).trans ((if_neg (by decide)).trans ((if_neg (by decide)).trans (if_pos rfl)))
theorem eql_dec (a : Int) : intCm .eql a 0 = (false || decide (a = 0)) := by simp [intCm]; rfl
def RepC (T : Tr) (rule : Int) : Prop := ∀ m : Mk, m.Ok → m.n + T.places ≤ 2000 →
 Fn Tryz.prog 175 [.ptr 0 6 0 0, .p T.pv, .p (i64 rule)] m.H [1, 2, 3, 4] (fun r H => r = .p (T.build rule m).2.pv ∧ H = (T.build rule m).1.H)
set_option maxHeartbeats 16000000 in
theorem repeat_fn (t : Tr) (s : Set4) (lo hi rule : Int) (hT : (Tr.mk 4 s [t] lo hi).Fit) (hok : (Tr.mk 4 s [t] lo hi).ok = true) (hnodes : (Tr.mk 4 s [t] lo hi).nodes < 2 ^ 61)
 (ih : TreeC t rule) (hg : Good (t.build rule) t.places) : RepC (Tr.mk 4 s [t] lo hi) rule := by
 intro m hm hn
 have hpl := places_fn _ hT hok
 have hp4 := places4 s t lo hi (by omega)
 have hb4 := build4 s t lo hi rule m
 have hba := bare_fn _ hT hnodes
 have hcp := copies_fn 4 s [t] lo hi
 have hk := ok_kinds hok
 have hk : 0 ≤ lo ∧ lo ≤ 64 ∧ (hi = -1 ∨ lo ≤ hi ∧ hi ≤ 64) := by
  rcases hk with h | h | h | h | h
  ·omega
  ·omega
  ·omega
  ·omega
  ·exact h.2.2
 have hc : 0 ≤ copiesI lo hi ∧ copiesI lo hi ≤ 64 := by
  unfold copiesI
  split <;> omega
 clear hok hT hnodes
 generalize (Tr.mk 4 s [t] lo hi).places = pl at *
 generalize (Tr.mk 4 s [t] lo hi).told.empty = te at *
 by_cases h0 : pl = 0
 ·rw [if_pos h0] at hb4
  rw [hb4]
  refine f_intro rf175_eq rmixed rfl ?_
  (refine hkG ?_)
  refine vcall_pf hpl rfl rfl ?_
  (refine hkG ?_)
  (refine hkD ?_)
  refine vcall_pf hba rfl rfl ?_
  (refine hkG ?_)
  (refine ⟨_,_,⟨rfl,rfl⟩,⟨rfl,rfl⟩,?_,?_⟩<;>((repeat'(first|exact TLe.nil|exact HLe.nil _|refine TLe.cons ?_ ?_|refine HLe.cons ?_ ?_|exact KLe.ptr rfl|exact KLe.sl rfl (.inl rfl)|exact KLe.csl rfl|exact KLe.mpr rfl|refine KLe.pe ?_|refine KLe.tup ?_|refine KLe.agg ?_|refine BLe.pe ?_|refine BLe.mpe ?_|refine BLe.ghe ?_|refine BLe.axe ?_ ?_|refine BLe.mx ?_|exact KLeL.nil|refine KLe.fn ?_ ?_|refine KLeL.cons ?_ ?_|exact KLe.und _|exact BLe.dead _))<;>(try with_reducible rfl)))
  all_goals rfl
 ·rw [if_neg h0] at hb4
  rw [hb4]
  have hw : 1 ≤ t.places := Nat.pos_of_ne_zero fun h => by rw [h] at hp4; simp at hp4; omega
  have hcc : 1 ≤ (copiesI lo hi).toNat := Nat.pos_of_ne_zero fun h => by rw [h] at hp4; simp at hp4; omega
  obtain ⟨c, hcn⟩ : ∃ c : Nat, copiesI lo hi = (c : Int) := ⟨_, (Int.toNat_of_nonneg hc.1).symm⟩
  have hct : (copiesI lo hi).toNat = c := by omega
  rw [hct] at hcc hp4
  rw [hp4] at hn
  unfold repM
  rw [hct]
  have hcop := copies_ok hg hm
  have hop := open_ok (lo := lo) (hi := hi) (hcop c hn).1 (fun e => by have := (hcop c hn).2; rw [e] at this; simp at this; omega)
  refine f_intro rf175_eq rmixed rfl ?_
  (refine hkG ?_)
  refine vcall_pf hpl rfl rfl ?_
  (refine hkG ?_)
  (refine hkD ?_)
  refine vcall_pf hcp rfl rfl ?_
  (refine hkG ?_)
  obtain ⟨Q, hQ⟩ : ∃ Q : Nat → Mk × List Part, Q = fun i => copyM (t.build rule) i (m, []) := ⟨_, rfl⟩
  have Q0 : Q 0 = (m, []) := by rw [hQ]; rfl
  have QS : ∀ i, Q (i + 1) = copyStep (t.build rule) (Q i) := fun i => by rw [hQ]; exact copyM_succ _ _ _
  have Qi : ∀ i, i ≤ c → LOk (m.n + t.places * i) (Q i) ∧ (Q i).2.length = i := fun i hi => by
   rw [hQ]; exact hcop i (by have := Nat.mul_le_mul_left t.places hi; omega)
  have hQc : copyM (t.build rule) c (m, []) = Q c := by rw [hQ]
  rw [hQc] at hop ⊢
  have hl := Tr.rows_len [t]
  have hl : (Tr.rowsL [t]).length = 1 := hl
  have hg0 := Tr.rows_get (show [t][0]? = some t from rfl)
  have h8 := t.take8
  rw [hcn]
  refine ⟨[.slot 7 3], Nat, fun i => ⟨[(0, .ptr 0 6 0 0), (2, .p (i64 rule)), (4, .ptr 5 8 0 0), (6, .ptr 6 3 0 0), (7, .sl 7 3 0 i none), (22, .p (i64 c)), (23, .p (i64 i))],
   (Q i).1.H ++ [Tr.blk 4 s [t] lo hi, .mx [.p nilSl, .p nilSl, .p (.b false)], .pr 3 ((Q i).2.map Part.row)]⟩, fun i => i ≤ c, fun i => c - i, ⟨0, Nat.zero_le _, ?_⟩, fun i hi' => ?_⟩
  ·show StLe _ _ ⟨_, (Q 0).1.H ++ [_, _, .pr 3 ((Q 0).2.map Part.row)]⟩
   rw [Q0]
   (exact hkL)
  ·have hi' : i ≤ c := hi'
   by_cases hie : i = c
   ·subst hie
    obtain ⟨⟨q1, q2, q3⟩, q4⟩ := Qi i (Nat.le_refl _)
    obtain ⟨x, hx⟩ : ∃ x, x = openM lo hi (Q i) := ⟨_, rfl⟩
    rw [← hx] at hop ⊢
    obtain ⟨⟨x1, x2, x3⟩, x4⟩ := hop
    rw [q4] at x4
    have hxl : (x.2.map Part.row).length = i := by simp [x4]
    have hql : ((Q i).2.map Part.row).length = i := by simp [q4]
    have hs1 : intAr .sub .i64 (i : Int) 1 = ((i - 1 : Nat) : Int) := by rw [sub64 (by omega) (by omega)]; omega
    clear hQ QS Qi hcop hQc
    obtain ⟨n, hnn⟩ : ∃ n, n = min lo.toNat x.2.length := ⟨_, rfl⟩
    have hni : n ≤ i := by omega
    have hmn : (min lo (i : Int)).toNat = n := by omega
    obtain ⟨R, R0, RL, RS⟩ := fold_seq restStep (x.1, Part.none' true) (x.2.drop n).reverse
    obtain ⟨O, O0, OL, OS⟩ := fold_seq mustStep ((R (i - n)).1, Part.none' true) (x.2.take n)
    have hrl : (x.2.drop n).reverse.length = i - n := by simp [x4]
    have hol : (x.2.take n).length = n := by simp [x4]; omega
    rw [hrl] at RL
    rw [hol] at OL
    have hmn : Hid ((min lo (i : Int)).toNat = n) := ⟨hmn⟩
    have hj : joinM lo x = (O n).1.then' (O n).2 (R (i - n)).2 := by
     unfold joinM; rw [← hnn]; simp only []; rw [← RL, ← OL]
    rw [hj]
    have Rok : ∀ j, j ≤ i - n → POk (m.n + t.places * i) (R j) := fun j h => seq_ok (z := (x.1, Part.none' true)) (fun x p hx hp => rest_ok hx hp) (fun p hp => x3 p (List.mem_of_mem_drop (List.mem_reverse.1 hp))) ⟨x1, x2, Part.Ok.none' _ _⟩ R0 RS j (by omega)
    have Ook : ∀ j, j ≤ n → POk (m.n + t.places * i) (O j) := fun j h => seq_ok (z := ((R (i - n)).1, Part.none' true)) (fun x p hx hp => must_ok hx hp) (fun p hp => x3 p (List.mem_of_mem_take hp)) ⟨(Rok (i - n) (Nat.le_refl _)).ok, (Rok (i - n) (Nat.le_refl _)).sz, Part.Ok.none' _ _⟩ O0 OS j (by omega)
    clear hj RL OL hnn
    obtain ⟨lo0, lo1, hk⟩ := hk
    have hk : Hid (hi = -1 ∨ lo ≤ hi ∧ hi ≤ 64) := ⟨hk⟩
    by_cases hneg : hi < 0
    case' pos =>
     obtain ⟨p, hp⟩ : ∃ p, (Q i).2[i - 1]? = some p := ⟨_, List.getElem?_eq_getElem (by omega)⟩
     have hpd : (Q i).2.getD (i - 1) (Part.none' false) = p := by rw [List.getD_eq_getElem?_getD, hp]; rfl
     have hxe : x = ((Q i).1.behind p.last p.first, (Q i).2.set (i - 1) { p with empty := p.empty || decide (lo = 0) }) := by
      rw [hx]; unfold openM; rw [if_pos hneg, q4]; simp only [hpd]
     have hpo := q3 p (List.mem_of_getElem? hp)
     have hbe := behind_fn (Q i).1 q1 (by omega) p.last p.first (by rw [q2]; exact hpo.2) (by rw [q2]; exact hpo.1)
     have hgp : ((Q i).2.map Part.row)[0 + (intAr .sub .i64 (i : Int) 1).toNat]? = some p.row := by rw [hs1, Nat.zero_add]; exact row_get hp
     have hset : ∀ v, v = (p.empty || decide (lo = 0)) → ((Q i).2.map Part.row).set (0 + (intAr .sub .i64 (i : Int) 1).toNat) (p.row.take (0 + 2) ++ [.b v] ++ p.row.drop (0 + 2 + 1)) =
      ((Q i).2.set (i - 1) { p with empty := p.empty || decide (lo = 0) }).map Part.row := fun v hv => by
      rw [hs1, Nat.zero_add, List.map_set]
      subst hv
      rfl
     (refine hkG ?_)
     (refine hkD ?_)
     refine ⟨_, hgp, _, rfl, ?_⟩
     (refine hkG ?_)
     (refine hkD ?_)
     refine ⟨_, hgp, _, rfl, ?_⟩
     (refine hkG ?_)
     refine vcall_mv [0, 1, 2, 3, 4] hbe rfl rfl (KLeL.cons (KLe.ptr rfl) (KLeL.cons (KLe.pe rfl) (KLeL.cons (KLe.pe rfl) KLeL.nil))) ?_
     rintro r H ⟨rfl, rfl⟩
     (refine hkG ?_)
     (refine hkD ?_)
     refine ⟨_, hgp, _, rfl, ?_⟩
     (refine hkG ?_)
     refine bk_split (fun hbe => ?_) (fun hbe => ?_)
     all_goals
      (refine hkG ?_)
      (refine hkD ?_)
      refine ex_get hgp ?_
      refine And.intro rfl ?_
      refine And.intro (Nat.le_refl 3) ?_
      conv => whnf
      (refine hkG ?_)
    case' neg =>
     have hxe : x = Q i := by rw [hx]; unfold openM; rw [if_neg hneg]
     (refine hkG ?_)
     (refine hkD ?_)
    all_goals
     refine And.intro ⟨Int.le_refl _, (by show 0 ≤ min lo (i : Int); omega), Int.le_refl _, (by show min lo (i : Int) ≤ (i : Int); omega)⟩ ?_
     (refine hkG ?_)
     refine And.intro ⟨(by show 0 ≤ min lo (i : Int); omega), (by show min lo (i : Int) ≤ (i : Int); omega), Int.le_refl _⟩ ?_
     (refine hkG ?_)
     refine ⟨[], Nat × Nat, fun y => ⟨[(0, .ptr 0 6 0 0), (6, .ptr 6 3 0 0), (9, .sl 7 3 0 y.1 none), (10, .sl 7 3 (0 + y.1) (i - y.1) none), (11, .ptr 8 3 0 0), (91, .p (i64 (i - y.1 : Nat))), (92, .p (i64 y.2))],
      (R y.2).1.H ++ [.dead, .mx [.p nilSl, .p nilSl, .p (.b false)], .pr 3 (x.2.map Part.row), .mx (R y.2).2.cells]⟩, fun y => y.1 = (min lo (i : Int)).toNat ∧ y.2 ≤ i - n, fun y => i - n - y.2,
      ⟨((min lo (i : Int)).toNat, 0), ⟨rfl, Nat.zero_le _⟩, ?_⟩, fun y hy => ?_⟩
     ·show StLe _ _ ⟨_, (R 0).1.H ++ [_, _, _, .mx (R 0).2.cells]⟩
      rw [R0]
      refine ⟨⟨rfl, rfl⟩, ?_, ?_⟩
      ·(((repeat'(first|exact TLe.nil|exact HLe.nil _|refine TLe.cons ?_ ?_|refine HLe.cons ?_ ?_|exact KLe.ptr rfl|exact KLe.sl rfl (.inl rfl)|exact KLe.csl rfl|exact KLe.mpr rfl|refine KLe.pe ?_|refine KLe.tup ?_|refine KLe.agg ?_|refine BLe.pe ?_|refine BLe.mpe ?_|refine BLe.ghe ?_|refine BLe.axe ?_ ?_|refine BLe.mx ?_|exact KLeL.nil|refine KLe.fn ?_ ?_|refine KLeL.cons ?_ ?_|exact KLe.und _|exact BLe.dead _))<;>(try with_reducible rfl)))
       all_goals first | exact KLe.sl rfl (.inr rfl) | exact KLe.sl rfl (.inl rfl) | rfl
      ·subst hxe
       refine .cons ?_ (.cons ?_ (.cons ?_ (.cons ?_ (.cons ?_ (.cons (.dead _) (.cons ?_ (.cons (BLe.pe ?_) (.cons (BLe.mx (KLeL.cons (KLe.p (PLe.nil (.inl rfl))) (KLeL.cons (KLe.p (PLe.nil (.inl rfl))) (KLeL.cons (KLe.pe rfl) KLeL.nil)))) (.nil _)))))))))
       all_goals (((repeat'(first|exact TLe.nil|exact HLe.nil _|refine TLe.cons ?_ ?_|refine HLe.cons ?_ ?_|exact KLe.ptr rfl|exact KLe.sl rfl (.inl rfl)|exact KLe.csl rfl|exact KLe.mpr rfl|refine KLe.pe ?_|refine KLe.tup ?_|refine KLe.agg ?_|refine BLe.pe ?_|refine BLe.mpe ?_|refine BLe.ghe ?_|refine BLe.axe ?_ ?_|refine BLe.mx ?_|exact KLeL.nil|refine KLe.fn ?_ ?_|refine KLeL.cons ?_ ?_|exact KLe.und _|exact BLe.dead _))<;>(try with_reducible rfl)))
       all_goals first
        | exact hset _ (by rw [hbe]; first | rfl | exact eql_dec lo)
        | rfl
     ·obtain ⟨M, j⟩ := y
      obtain ⟨hM, hjn⟩ := hy
      have hM : M = (min lo (i : Int)).toNat := hM
      have hjn : j ≤ i - n := hjn
      have hMn : M = n := hM.trans hmn.of
      clear hM
      subst hMn
      clear hxe
      by_cases hje : j = i - M
      ·subst hje
       (refine hkG ?_)
       (refine hkD ?_)
       refine ⟨[], Nat, fun j => ⟨[(0, .ptr 0 6 0 0), (6, .ptr 6 3 0 0), (11, .ptr 8 3 0 0), (13, .ptr 9 3 0 0), (109, .sl 7 3 0 M none), (110, .p (i64 M)), (111, .p (i64 j))],
        (O j).1.H ++ [.dead, .mx [.p nilSl, .p nilSl, .p (.b false)], .pr 3 (x.2.map Part.row), .mx (R (i - M)).2.cells, .mx (O j).2.cells]⟩, fun j => j ≤ M, fun j => M - j, ⟨0, Nat.zero_le _, ?_⟩, fun j hjM => ?_⟩
       ·show StLe _ _ ⟨_, (O 0).1.H ++ [_, _, _, _, .mx (O 0).2.cells]⟩
        rw [O0]
        refine ⟨⟨rfl, rfl⟩, ?_, ?_⟩
        ·(((repeat'(first|exact TLe.nil|exact HLe.nil _|refine TLe.cons ?_ ?_|refine HLe.cons ?_ ?_|exact KLe.ptr rfl|exact KLe.sl rfl (.inl rfl)|exact KLe.csl rfl|exact KLe.mpr rfl|refine KLe.pe ?_|refine KLe.tup ?_|refine KLe.agg ?_|refine BLe.pe ?_|refine BLe.mpe ?_|refine BLe.ghe ?_|refine BLe.axe ?_ ?_|refine BLe.mx ?_|exact KLeL.nil|refine KLe.fn ?_ ?_|refine KLeL.cons ?_ ?_|exact KLe.und _|exact BLe.dead _))<;>(try with_reducible rfl)))
         all_goals first | exact KLe.sl rfl (.inr rfl) | exact KLe.sl rfl (.inl rfl) | rfl
        ·refine .cons ?_ (.cons ?_ (.cons ?_ (.cons ?_ (.cons ?_ (.cons (.dead _) (.cons ?_ (.cons (BLe.pe rfl) (.cons ?_ (.cons (BLe.mx (KLeL.cons (KLe.p (PLe.nil (.inl rfl))) (KLeL.cons (KLe.p (PLe.nil (.inl rfl))) (KLeL.cons (KLe.pe rfl) KLeL.nil)))) (.nil _))))))))))
         all_goals (((repeat'(first|exact TLe.nil|exact HLe.nil _|refine TLe.cons ?_ ?_|refine HLe.cons ?_ ?_|exact KLe.ptr rfl|exact KLe.sl rfl (.inl rfl)|exact KLe.csl rfl|exact KLe.mpr rfl|refine KLe.pe ?_|refine KLe.tup ?_|refine KLe.agg ?_|refine BLe.pe ?_|refine BLe.mpe ?_|refine BLe.ghe ?_|refine BLe.axe ?_ ?_|refine BLe.mx ?_|exact KLeL.nil|refine KLe.fn ?_ ?_|refine KLeL.cons ?_ ?_|exact KLe.und _|exact BLe.dead _))<;>(try with_reducible rfl)))
         all_goals rfl
       ·have hjM : j ≤ M := hjM
        have hook := Ook j hjM
        by_cases hje : j = M
        ·have hrok := Rok (i - M) (Nat.le_refl _)
         have hth := then2_fn (O j).1 hook.ok (by have := hook.sz; omega) (O j).2 (R (i - M)).2 (by rw [hook.sz]; exact hook.p) (by rw [hook.sz]; exact hrok.p)
         subst hje
         (refine hkG ?_)
         (refine hkD ?_)
         refine vcall_mv [0, 1, 2, 3, 4] hth rfl rfl (KLeL.cons (KLe.ptr rfl) (KLeL.cons (KLe.pe rfl) (KLeL.cons (KLe.pe rfl) KLeL.nil))) ?_
         rintro r H ⟨rfl, rfl⟩
         (refine hkG ?_)
         (refine ⟨_,_,⟨rfl,rfl⟩,⟨rfl,rfl⟩,?_,?_⟩<;>((repeat'(first|exact TLe.nil|exact HLe.nil _|refine TLe.cons ?_ ?_|refine HLe.cons ?_ ?_|exact KLe.ptr rfl|exact KLe.sl rfl (.inl rfl)|exact KLe.csl rfl|exact KLe.mpr rfl|refine KLe.pe ?_|refine KLe.tup ?_|refine KLe.agg ?_|refine BLe.pe ?_|refine BLe.mpe ?_|refine BLe.ghe ?_|refine BLe.axe ?_ ?_|refine BLe.mx ?_|exact KLeL.nil|refine KLe.fn ?_ ?_|refine KLeL.cons ?_ ?_|exact KLe.und _|exact BLe.dead _))<;>(try with_reducible rfl)))
         all_goals rfl
        ·have hjlt : j < M := by omega
         obtain ⟨p, hp⟩ : ∃ p, (x.2.take M)[j]? = some p := ⟨_, List.getElem?_eq_getElem (by omega)⟩
         have hOS := OS j p hp
         have hpo := x3 p (List.mem_of_mem_take (List.mem_of_getElem? hp))
         have hth := then2_fn (O j).1 hook.ok (by have := hook.sz; omega) (O j).2 p (by rw [hook.sz]; exact hook.p) (by rw [hook.sz]; exact hpo)
         have hpx : x.2[j]? = some p := by
          rw [List.getElem?_take_of_lt hjlt] at hp; exact hp
         have hgp : (x.2.map Part.row)[0 + j]? = some p.row := by rw [Nat.zero_add]; exact row_get hpx
         unfold mustStep Mk.then' at hOS
         (refine hkG ?_)
         (refine hkD ?_)
         refine ex_get hgp ?_
         (refine hkG ?_)
         refine vcall_mv [0, 1, 2, 3, 4] hth rfl rfl (KLeL.cons (KLe.ptr rfl) (KLeL.cons (KLe.pe rfl) (KLeL.cons (KLe.pe rfl) KLeL.nil))) ?_
         rintro r H ⟨rfl, rfl⟩
         (refine hkG ?_)
         refine ⟨j + 1, hjlt, (show M - (j + 1) < M - j by omega), ?_⟩
         show StLe _ _ ⟨_, (O (j + 1)).1.H ++ [_, _, _, _, .mx (O (j + 1)).2.cells]⟩
         rw [hOS]
         (exact hkL)
      ·have hjlt : j < i - M := by omega
       obtain ⟨p, hp⟩ : ∃ p, (x.2.drop M).reverse[j]? = some p := ⟨_, List.getElem?_eq_getElem (by omega)⟩
       have hRS := RS j p hp
       have hpo := x3 p (List.mem_of_mem_drop (List.mem_reverse.1 (List.mem_of_getElem? hp)))
       have hrok := Rok j (by omega)
       have hth := then2_fn (R j).1 hrok.ok (by have := hrok.sz; omega) p (R j).2 (by rw [hrok.sz]; exact hpo) (by rw [hrok.sz]; exact hrok.p)
       have hs2 : intAr .sub .i64 (intAr .sub .i64 ((i - M : Nat) : Int) 1) (j : Int) = ((i - M - 1 - j : Nat) : Int) := by
        rw [sub64 (a := ((i - M : Nat) : Int)) (by omega) (by omega), sub64 (by omega) (by omega)]; omega
       have hpx : x.2[M + (i - M - 1 - j)]? = some p := by
        rw [List.getElem?_reverse (by rw [List.length_drop, x4]; omega), List.length_drop, x4, List.getElem?_drop] at hp
        exact hp
       have hgp : (x.2.map Part.row)[0 + M + (intAr .sub .i64 (intAr .sub .i64 ((i - M : Nat) : Int) 1) (j : Int)).toNat]? = some p.row := by
        rw [hs2, Nat.zero_add]; exact row_get hpx
       unfold restStep Mk.then' at hRS
       (refine hkG ?_)
       (refine hkD ?_)
       refine ex_get hgp ?_
       (refine hkG ?_)
       refine vcall_mv [0, 1, 2, 3, 4] hth rfl rfl (KLeL.cons (KLe.ptr rfl) (KLeL.cons (KLe.pe rfl) (KLeL.cons (KLe.pe rfl) KLeL.nil))) ?_
       rintro r H ⟨rfl, rfl⟩
       (refine hkG ?_)
       refine ⟨(M, j + 1), ⟨hmn.of.symm, hjlt⟩, (show i - M - (j + 1) < i - M - j by omega), ?_⟩
       show StLe _ _ ⟨_, (R (j + 1)).1.H ++ [_, _, _, .mx (R (j + 1)).2.cells]⟩
       rw [hRS]
       (exact hkL)
   ·have hlt : i < c := by omega
    obtain ⟨⟨q1, q2, q3⟩, q4⟩ := Qi i hi'
    have hmul := Nat.mul_le_mul_left t.places (show i + 1 ≤ c by omega)
    have hms : t.places * (i + 1) = t.places * i + t.places := Nat.mul_succ _ _
    have hih := ih (Q i).1 q1 (by omega)
    have hQS := QS i
    unfold copyStep at hQS
    generalize t.build rule (Q i).1 = q at *
    obtain ⟨tk, ts, tsub, tlo, thi⟩ := t
    (refine hkG ?_)
    (refine hkD ?_)
    refine vcall_mv [0, 1, 2, 3, 4] hih rfl rfl (KLeL.cons (KLe.ptr rfl) (KLeL.cons (KLe.pe rfl) (KLeL.cons (KLe.pe rfl) KLeL.nil))) ?_
    rintro r H ⟨rfl, rfl⟩
    (refine hkG ?_)
    refine And.intro (by rw [List.length_map, q4]; omega) (And.intro (by show (i + 1) * 56 ≤ 70368744177664; omega) ?_)
    (refine hkG ?_)
    refine ⟨i + 1, hlt, (show c - (i + 1) < c - i by omega), ?_⟩
    show StLe _ _ ⟨_, (Q (i + 1)).1.H ++ [_, _, .pr 3 ((Q (i + 1)).2.map Part.row)]⟩
    rw [hQS]
    ((refine ⟨⟨rfl,rfl⟩,?_,?_⟩<;>((repeat'(first|exact TLe.nil|exact HLe.nil _|refine TLe.cons ?_ ?_|refine HLe.cons ?_ ?_|exact KLe.ptr rfl|exact KLe.sl rfl (.inl rfl)|exact KLe.csl rfl|exact KLe.mpr rfl|refine KLe.pe ?_|refine KLe.tup ?_|refine KLe.agg ?_|refine BLe.pe ?_|refine BLe.mpe ?_|refine BLe.ghe ?_|refine BLe.axe ?_ ?_|refine BLe.mx ?_|exact KLeL.nil|refine KLe.fn ?_ ?_|refine KLeL.cons ?_ ?_|exact KLe.und _|exact BLe.dead _))<;>(try with_reducible rfl)))<;>(first|rfl|((refine congrArg (PV.int IntKind.i64) ?_)<;>(first|rfl|omega|(rw [add64 (by omega) (by omega)];omega)|(rw [sub64 (by omega) (by omega)];omega)))|skip))
    exact (List.map_append (f := Part.row) (l₁ := (Q i).2) (l₂ := [q.2])).symm
end Hk
namespace Hk
open Go Go.Proofs
set_option linter.unusedVariables false
set_option linter.unusedSimpArgs false
set_option maxRecDepth 100000
set_option maxHeartbeats 4000000 in
theorem tree4_fn (t : Tr) (s : Set4) (lo hi rule : Int) (h : RepC (Tr.mk 4 s [t] lo hi) rule) : TreeC (Tr.mk 4 s [t] lo hi) rule := by
 intro m hm hn
 have hr := h m hm hn
 generalize (Tr.mk 4 s [t] lo hi).build rule m = q at *
 refine f_intro rf116_eq rmixed rfl ?_
 (refine hkG ?_)
 (refine hkC ?_)
 refine vcall_mv [0, 1, 2, 3, 4] hr rfl rfl (KLeL.cons (KLe.ptr rfl) (KLeL.cons (KLe.pe rfl) (KLeL.cons (KLe.pe rfl) KLeL.nil))) ?_
 rintro r H ⟨rfl, rfl⟩
 (refine hkG ?_)
 (refine ⟨_,_,⟨rfl,rfl⟩,⟨rfl,rfl⟩,?_,?_⟩<;>((repeat'(first|exact TLe.nil|exact HLe.nil _|refine TLe.cons ?_ ?_|refine HLe.cons ?_ ?_|exact KLe.ptr rfl|exact KLe.sl rfl (.inl rfl)|exact KLe.csl rfl|exact KLe.mpr rfl|refine KLe.pe ?_|refine KLe.tup ?_|refine KLe.agg ?_|refine BLe.pe ?_|refine BLe.mpe ?_|refine BLe.ghe ?_|refine BLe.axe ?_ ?_|refine BLe.mx ?_|exact KLeL.nil|refine KLe.fn ?_ ?_|refine KLeL.cons ?_ ?_|exact KLe.und _|exact BLe.dead _))<;>(try with_reducible rfl)))
 all_goals rfl
theorem len_nodes : ∀ sub : List Tr, sub.length ≤ (sub.map Tr.nodes).sum
 | [] => Nat.le_refl _
 | t :: r => by
   have := len_nodes r
   obtain ⟨k, s, sub, lo, hi⟩ := t
   rw [List.map_cons, List.sum_cons, Tr.nodes_mk, List.length_cons]
   omega
theorem placed_ok (m : Mk) : m.placed.Ok (m.n + 1) := by
 have h : Asc (m.n + 1) [(m.n : Int)] := ⟨by simp, fun p hp => by simp at hp; subst hp; omega⟩
 exact ⟨h, h⟩
theorem tree_good (rule : Int) (T : Tr) (hok : T.ok = true) : Good (T.build rule) T.places := by
 induction T using Tr.ind' with | h k s sub lo hi ih => ?_
 have hk := ok_kinds hok
 have ih := fun t ht => ih t ht (ok_sub hok ht)
 intro m hm hn
 have hle : (Tr.mk k s sub lo hi).places ≤ 2000 := by omega
 rcases hk with ⟨rfl, rfl⟩ | ⟨rfl, rfl⟩ | ⟨rfl, _⟩ | ⟨rfl, _⟩ | ⟨rfl, h1, hlo⟩
 ·rw [build0]
  have : (Tr.mk 0 s [] lo hi).places = 0 := by rw [Tr.places_mk]; rfl
  exact ⟨hm, by rw [this]; rfl, Part.Ok.none' _ _⟩
 ·have hb : (Tr.mk 1 s [] lo hi).build rule m = (m.place s rule, m.placed) := by rw [Tr.build]; exact if_pos rfl
  have hp : (Tr.mk 1 s [] lo hi).places = 1 := by rw [Tr.places_mk]; rfl
  have hN : (m.place s rule).n = m.n + 1 := by simp [Mk.place, Mk.n]
  rw [hb, hp]
  exact ⟨hm.place s rule, hN, by rw [hN]; exact placed_ok m⟩
 ·have hp := places2 s sub lo hi hle
  obtain ⟨P, P0, PL, PS⟩ := fold_seq catStep (m, Part.none' true) (sub.map (Tr.build rule))
  rw [List.length_map] at PL
  obtain ⟨a, b, c⟩ := steps_inv cat_good ih hm (by omega) P0 (fun i t ht => PS i _ (map_get (Tr.build rule) ht)) sub.length (Nat.le_refl _)
  rw [build2, ← PL, hp]
  rw [List.take_of_length_le (by simp)] at b
  exact ⟨a, b, c⟩
 ·have hp := places3 s sub lo hi hle
  obtain ⟨P, P0, PL, PS⟩ := fold_seq altStep (m, Part.none' false) (sub.map (Tr.build rule))
  rw [List.length_map] at PL
  obtain ⟨a, b, c⟩ := steps_inv alt_good ih hm (by omega) P0 (fun i t ht => PS i _ (map_get (Tr.build rule) ht)) sub.length (Nat.le_refl _)
  rw [build3, ← PL, hp]
  rw [List.take_of_length_le (by simp)] at b
  exact ⟨a, b, c⟩
 ·obtain ⟨t, rfl⟩ : ∃ t, sub = [t] := List.length_eq_one_iff.1 h1
  rw [build4]
  have hp := places4 s t lo hi hle
  split
  ·rename_i h0
   exact ⟨hm, by show m.n = m.n + _; omega, Part.Ok.none' _ _⟩
  ·rename_i h0
   rw [hp] at h0 hn ⊢
   exact rep_good (ih t (by simp)) (Nat.pos_of_ne_zero fun e => h0 (by rw [e]; rfl)) m hm hn
theorem tree_fn (rule : Int) (T : Tr) (hT : T.Fit) (hok : T.ok = true) (hn : T.nodes ≤ 300) : TreeC T rule := by
 induction T using Tr.ind' with | h k s sub lo hi ih => ?_
 have hk := ok_kinds hok
 have ih := fun t ht => ih t ht (hT.sub t ht) (ok_sub hok ht) (by have := Tr.nodes_sub (k := k) (s := s) (lo := lo) (hi := hi) ht; omega)
 have hg := fun t ht => tree_good rule t (ok_sub hok (t := t) ht)
 have hlen := len_nodes sub
 have hnm := Tr.nodes_mk k s sub lo hi
 rcases hk with ⟨rfl, _⟩ | ⟨rfl, _⟩ | ⟨rfl, _⟩ | ⟨rfl, _⟩ | ⟨rfl, h1, hlo⟩
 ·exact tree0_fn s sub lo hi rule
 ·exact tree1_fn s sub lo hi rule
 ·exact tree2_fn s sub lo hi rule (by omega) ih hg
 ·exact tree3_fn s sub lo hi rule (by omega) ih hg
 ·obtain ⟨t, rfl⟩ : ∃ t, sub = [t] := List.length_eq_one_iff.1 h1
  exact tree4_fn t s lo hi rule (repeat_fn t s lo hi rule hT hok (by omega) (ih t (by simp)) (hg t (by simp)))
end Hk
namespace Hk
open Go Go.Proofs
set_option linter.unusedVariables false
set_option linter.unusedSimpArgs false
set_option maxRecDepth 100000
structure Nfa where
 sets : List Set4
 rules : List Int
 first : List Int
 follow : List (List Int)
 ends : List Bool
 emp : Int
def rowLs (l : List Int) : List PV := [.isl 1 (ints l) none]
def rowBs (b : Bool) : List PV := [.b b]
def Nfa.pv (n : Nfa) : PV := .agg [.isl 4 (n.sets.map Set4.cells) none, .isl 1 (ints n.rules) none, .isl 1 (ints n.first) none, .isl 1 (n.follow.map rowLs) none, .isl 1 (n.ends.map rowBs) none, i64 n.emp]
theorem adj_pw : ∀ {l : List Int}, (∀ (i : Nat) (x y : Int), l[i]? = some x → l[i + 1]? = some y → x < y) → l.Pairwise (· < ·)
 | [], _ => .nil
 | x :: r, h => by
   have ih := adj_pw (l := r) fun i x y hx hy => h (i + 1) x y hx hy
   rw [List.pairwise_cons]
   refine ⟨fun z hz => ?_, ih⟩
   cases r with
   | nil => cases hz
   | cons y r =>
     have h0 := h 0 x y rfl rfl
     rw [List.pairwise_cons] at ih
     rcases List.mem_cons.1 hz with rfl | hz
     ·exact h0
     ·have := ih.1 z hz; omega
def risingB (k : Nat) (l : List Int) : Bool := (List.range l.length).all fun i => decide (0 ≤ l.getD i 0 ∧ l.getD i 0 < k) && (decide (i = 0) || decide (l.getD (i - 1) 0 < l.getD i 0))
theorem risingB_asc {k : Nat} {l : List Int} : risingB k l = true ↔ Asc k l := by
 unfold risingB Asc
 rw [List.all_eq_true]
 have hgd : ∀ {i : Nat} {x : Int}, l[i]? = some x → l.getD i 0 = x := fun h => by rw [List.getD_eq_getElem?_getD, h]; rfl
 constructor
 ·intro h
  refine ⟨adj_pw fun i x y hx hy => ?_, fun x hx => ?_⟩
  ·have := h (i + 1) (by have := (List.getElem?_eq_some_iff.1 hy).1; simpa using this)
   rw [hgd hy, Nat.add_sub_cancel, hgd hx] at this
   simp at this
   exact this.2
  ·obtain ⟨i, hi⟩ := List.mem_iff_getElem?.1 hx
   have := h i (by have := (List.getElem?_eq_some_iff.1 hi).1; simpa using this)
   rw [hgd hi] at this
   simp at this
   exact this.1
 ·rintro ⟨h1, h2⟩ i hi
  have hi : i < l.length := by simpa using hi
  have hx := List.getElem?_eq_getElem hi
  rw [hgd hx]
  have hb := h2 _ (List.getElem_mem hi)
  by_cases h0 : i = 0
  ·simp [h0, hb]
   subst h0; exact hb
  ·have hy := List.getElem?_eq_getElem (show i - 1 < l.length by omega)
   rw [hgd hy]
   have := List.pairwise_iff_getElem.1 h1 (i - 1) i (by omega) hi (by omega)
   simp [hb, this]
set_option maxHeartbeats 2000000 in
theorem rising_fn (n : Nfa) (hs : n.sets.length < 2 ^ 40) (l : List Int) (hl : l.length < 2 ^ 40) : PF Tryz.prog 177 [n.pv, .isl 1 (ints l) none] (.b (risingB n.sets.length l)) := by
 have hil := ints_len l
 have hsl : (n.sets.map Set4.cells).length = n.sets.length := by simp
 refine pf_intro rf177_eq rmixed rfl ?_
 (refine hkG ?_)
 refine ⟨[], Nat, fun i => ⟨[(1, .p (.isl 1 (ints l) none)), (2, .ptr 0 6 0 0), (7, .p (.isl 1 (ints l) none)), (8, .p (i64 l.length)), (9, .p (i64 i))],
  [.mx [.p (.isl 4 (n.sets.map Set4.cells) none), .p (.isl 1 (ints n.rules) none), .p (.isl 1 (ints n.first) none), .p (.isl 1 (n.follow.map rowLs) none), .p (.isl 1 (n.ends.map rowBs) none), .p (i64 n.emp)]]⟩,
  fun i => i ≤ l.length ∧ ∀ j, j < i → (decide (0 ≤ l.getD j 0 ∧ l.getD j 0 < n.sets.length) && (decide (j = 0) || decide (l.getD (j - 1) 0 < l.getD j 0))) = true, fun i => l.length - i, ⟨0, ⟨Nat.zero_le _, fun j h => by omega⟩, ?_⟩, fun i hi => ?_⟩
 ·(exact hkL)
 ·obtain ⟨hi, hall⟩ := hi
  by_cases hie : i = l.length
  ·have e : risingB n.sets.length l = true := by
    unfold risingB; rw [List.all_eq_true]; intro j hj; exact hall j (by simpa [hie] using hj)
   rw [e]
   subst hie
   (refine hkG ?_)
   (refine hkD ?_)
   exact ret_pf rfl rfl rfl
  ·have hlt : i < l.length := by omega
   obtain ⟨x, hx⟩ : ∃ x, l[i]? = some x := ⟨_, List.getElem?_eq_getElem hlt⟩
   have hgd : l.getD i 0 = x := by rw [List.getD_eq_getElem?_getD, hx]; rfl
   have hg := ints_get hx
   have hbad : (decide (0 ≤ l.getD i 0 ∧ l.getD i 0 < n.sets.length) && (decide (i = 0) || decide (l.getD (i - 1) 0 < l.getD i 0))) = false → risingB n.sets.length l = false := fun h => by
    cases hr : risingB n.sets.length l with
    | false => rfl
    | true =>
      unfold risingB at hr
      have := List.all_eq_true.1 hr i (by simpa using hlt)
      rw [h] at this; cases this
   have hgood : (decide (0 ≤ l.getD i 0 ∧ l.getD i 0 < n.sets.length) && (decide (i = 0) || decide (l.getD (i - 1) 0 < l.getD i 0))) = true → ∀ j, j < i + 1 → (decide (0 ≤ l.getD j 0 ∧ l.getD j 0 < n.sets.length) && (decide (j = 0) || decide (l.getD (j - 1) 0 < l.getD j 0))) = true := fun h j hj => by
    by_cases e : j = i
    ·subst e; exact h
    ·exact hall j (by omega)
   rw [hgd] at hbad hgood
   have e1 : 0 < i → intAr .sub .i64 (i : Int) 1 = ((i - 1 : Nat) : Int) := fun h => by rw [sub64 (by omega) (by omega)]; omega
   (refine hkG ?_)
   (refine hkD ?_)
   refine ⟨_, hg, ?_⟩
   (refine hkG ?_)
   by_cases hx0 : x < 0
   ·rw [hbad (by simp; omega)]
    (refine hkD ?_)
    exact ret_pf rfl rfl rfl
   ·by_cases hxn : (n.sets.length : Int) ≤ x
    ·rw [hbad (by simp; omega)]
     (refine hkD ?_)
     exact ret_pf rfl rfl rfl
    ·by_cases hi0 : i = 0
     ·have hgood := hgood (by simp [hi0]; omega)
      subst hi0
      (refine hkD ?_)
      refine ⟨0 + 1, ⟨hlt, hgood⟩, by show l.length - (0 + 1) < l.length - 0; omega, ?_⟩
      (exact hkL)
     ·obtain ⟨y, hy⟩ : ∃ y, l[i - 1]? = some y := ⟨_, List.getElem?_eq_getElem (by omega)⟩
      have hgy : l.getD (i - 1) 0 = y := by rw [List.getD_eq_getElem?_getD, hy]; rfl
      rw [hgy] at hbad hgood
      have e1 := e1 (by omega)
      have hg1 := ints_get hy
      (refine hkD ?_)
      refine ⟨_, by rw [e1, Int.toNat_natCast]; exact hg1, ?_⟩
      (refine hkG ?_)
      by_cases hxy : x ≤ y
      ·rw [hbad (by simp; omega)]
       (refine hkD ?_)
       exact ret_pf rfl rfl rfl
      ·have hgood := hgood (by simp; omega)
       (refine hkD ?_)
       refine ⟨i + 1, ⟨hlt, hgood⟩, by show l.length - (i + 1) < l.length - i; omega, ?_⟩
       (exact hkL)
def Nfa.cells (n : Nfa) : List PV := [.isl 4 (n.sets.map Set4.cells) none, .isl 1 (ints n.rules) none, .isl 1 (ints n.first) none, .isl 1 (n.follow.map rowLs) none, .isl 1 (n.ends.map rowBs) none, i64 n.emp]
def Nfa.has (n : Nfa) (b : Nat) (p : Int) : Bool := (n.sets.getD p.toNat .nil).has b
theorem with1_fn (n : Nfa) (hs : n.sets.length < 2 ^ 40) (b : Nat) (hb : b < 256) (p : Int) (hp : 0 ≤ p ∧ p < n.sets.length) : PF Tryz.prog 230 [i64 p, .irow n.cells 0, .irow [.int .u8 b] 0] (.b (!n.has b p)) := by
 have hsl : (n.sets.map Set4.cells).length = n.sets.length := by simp
 have hlt : p.toNat < n.sets.length := by omega
 obtain ⟨s, hsp⟩ : ∃ s, n.sets[p.toNat]? = some s := ⟨_, List.getElem?_eq_getElem hlt⟩
 have hg : (n.sets.map Set4.cells)[p.toNat]? = some s.cells := by rw [List.getElem?_map, hsp]; rfl
 have hh : n.has b p = s.has b := by unfold Nfa.has; rw [List.getD_eq_getElem?_getD, hsp]; rfl
 rw [hh]
 refine pf_intro rf230_eq rmixed rfl ?_
 (refine hkG ?_)
 refine ⟨_, hg, ?_⟩
 (refine hkG ?_)
 refine vcall_pf (has8_fn s b hb) rfl rfl ?_
 (refine hkG ?_)
 exact ret_pf rfl rfl rfl
def Nfa.with' (n : Nfa) (l : List Int) (b : Nat) : List Int := l.filter (n.has b)
theorem with_fn (n : Nfa) (hs : n.sets.length < 2 ^ 40) (l : List Int) (hl : Asc n.sets.length l) (b : Nat) (hb : b < 256) : PF Tryz.prog 181 [n.pv, .isl 1 (ints l) none, .int .u8 b] (.isl 1 (ints (n.with' l b)) none) := by
 have hll := hl.len
 have hfl : (l.filter fun p => !!n.has b p) = n.with' l b := by simp [Nfa.with']
 refine pf_intro rf181_eq rmixed rfl ?_
 (refine hkG ?_)
 refine vcall_new (ps := [.isl 1 (ints l) none]) (clone_fn l none (by omega)) rfl rfl ?_
 rintro r H (⟨rfl, rfl, rfl⟩ | ⟨rfl, rfl⟩)
 ·(refine hkG ?_)
  refine vcall_frz [0, 1] (delete_nil _ [.irow n.cells 0, .irow [.int .u8 b] 0]) rfl (KLeL.cons (KLe.pe rfl) (KLeL.cons (KLe.fnp KLeL.nil (KLeL.cons (KLe.fmx (row := n.cells) rfl rfl) (KLeL.cons (KLe.fmx (row := [.int .u8 b]) rfl rfl) KLeL.nil))) KLeL.nil)) ?_
  (refine hkG ?_)
  exact ret_ple rfl rfl (PLe.nil (.inl rfl))
 ·(refine hkG ?_)
  refine vcall_ow [2] [0, 1] (delete_fn l _ [.irow n.cells 0, .irow [.int .u8 b] 0] (fun z => !n.has b z) (by omega) (fun z hz => with1_fn n hs b hb z (hl.2 z hz))) rfl rfl (KLeL.cons (KLe.sl rfl (.inl rfl)) (KLeL.cons (KLe.fnp KLeL.nil (KLeL.cons (KLe.fmx (row := n.cells) rfl rfl) (KLeL.cons (KLe.fmx (row := [.int .u8 b]) rfl rfl) KLeL.nil))) KLeL.nil)) ?_
  rintro r H ⟨rest, rfl, rfl⟩
  rw [hfl]
  (refine hkG ?_)
  refine ⟨.p (.isl 1 (ints (n.with' l b)) none), [], ⟨rfl, rfl⟩, ⟨rfl, rfl⟩, ?_, .nil _⟩
  have htk : (dropN 0 (ints (n.with' l b) ++ rest)).take (n.with' l b).length = ints (n.with' l b) := by
   show (ints (n.with' l b) ++ rest).take _ = _
   rw [← ints_len (n.with' l b)]; exact List.take_left
  exact KLe.fsl rfl rfl htk (ints_len _) (.refl _)
end Hk
namespace Hk
open Go Go.Proofs
set_option linter.unusedVariables false
set_option linter.unusedSimpArgs false
set_option maxRecDepth 100000
structure Nfa.Ok (n : Nfa) : Prop where
 size : n.sets.length ≤ 2000
 rules : n.rules.length = n.sets.length
 follow : n.follow.length = n.sets.length
 ends : n.ends.length = n.sets.length
 first : Asc n.sets.length n.first
 asc : ∀ l ∈ n.follow, Asc n.sets.length l
def Nfa.tagStep (n : Nfa) (out p : Int) : Int := if n.ends.getD p.toNat false = true ∧ (out < 0 ∨ n.rules.getD p.toNat 0 < out) then n.rules.getD p.toNat 0 else out
def Nfa.tag (n : Nfa) (l : List Int) : Int := l.foldl n.tagStep (-1)
set_option maxHeartbeats 2000000 in
theorem tag_fn (n : Nfa) (hn : n.Ok) (l : List Int) (hl : Asc n.sets.length l) : PF Tryz.prog 183 [n.pv, .isl 1 (ints l) none] (i64 (n.tag l)) := by
 have hll := hl.len
 have hsz := hn.size
 have hil := ints_len l
 obtain ⟨P, P0, PL, PS⟩ := fold_seq n.tagStep (-1) l
 unfold Nfa.tag
 rw [← PL]
 refine pf_intro rf183_eq rmixed rfl ?_
 (refine hkG ?_)
 refine ⟨[], Nat, fun i => ⟨[(2, .ptr 0 6 0 0), (5, .p (i64 (P i))), (8, .p (.isl 1 (ints l) none)), (9, .p (i64 l.length)), (10, .p (i64 i))],
  [.mx (n.cells.map .p)]⟩, fun i => i ≤ l.length, fun i => l.length - i, ⟨0, Nat.zero_le _, ?_⟩, fun i hi => ?_⟩
 ·(exact hkL)
  all_goals rw [P0]
 ·have hi : i ≤ l.length := hi
  by_cases hie : i = l.length
  ·subst hie
   (refine hkG ?_)
   (refine hkD ?_)
   exact ret_pf rfl rfl rfl
  ·have hlt : i < l.length := by omega
   obtain ⟨p, hp⟩ : ∃ p, l[i]? = some p := ⟨_, List.getElem?_eq_getElem hlt⟩
   have hpr := hl.2 p (mem_get hp)
   have hg := ints_get hp
   have hPS := PS i p hp
   have e1 := hn.ends
   have e2 := hn.rules
   obtain ⟨b, hb⟩ : ∃ b, n.ends[p.toNat]? = some b := ⟨_, List.getElem?_eq_getElem (by omega)⟩
   obtain ⟨r, hr⟩ : ∃ r, n.rules[p.toNat]? = some r := ⟨_, List.getElem?_eq_getElem (by omega)⟩
   have hgb : (n.ends.map rowBs)[p.toNat]? = some [.b b] := by rw [List.getElem?_map, hb]; rfl
   have hgr := ints_get hr
   have hle : (n.ends.map rowBs).length = n.sets.length := by simp [e1]
   have hlr : (ints n.rules).length = n.sets.length := by rw [ints_len, e2]
   unfold Nfa.tagStep at hPS
   rw [List.getD_eq_getElem?_getD, List.getD_eq_getElem?_getD, hb, hr] at hPS
   simp only [Option.getD_some] at hPS
   (refine hkG ?_)
   (refine hkD ?_)
   refine ⟨_, hg, ?_⟩
   (refine hkG ?_)
   refine ⟨_, hgb, ?_⟩
   (refine hkG ?_)
   cases b with
   | false =>
     rw [if_neg (by simp)] at hPS
     (refine hkC ?_)
     refine ⟨i + 1, hlt, by show l.length - (i + 1) < l.length - i; omega, ?_⟩
     (exact hkL)
   | true =>
     simp only [true_and] at hPS
     (refine hkG ?_)
     by_cases h0 : P i < 0
     ·rw [if_pos (.inl h0)] at hPS
      (refine hkD ?_)
      refine ⟨_, hgr, ?_⟩
      (refine hkG ?_)
      refine ⟨i + 1, hlt, by show l.length - (i + 1) < l.length - i; omega, ?_⟩
      (exact hkL)
     ·(refine hkD ?_)
      refine ⟨_, hgr, ?_⟩
      (refine hkG ?_)
      by_cases h1 : r < P i
      ·rw [if_pos (.inr h1)] at hPS
       (refine hkD ?_)
       refine ⟨_, hgr, ?_⟩
       (refine hkG ?_)
       refine ⟨i + 1, hlt, by show l.length - (i + 1) < l.length - i; omega, ?_⟩
       (exact hkL)
      ·rw [if_neg (by omega)] at hPS
       (refine hkD ?_)
       refine ⟨i + 1, hlt, by show l.length - (i + 1) < l.length - i; omega, ?_⟩
       (exact hkL)
def mark (M : List Bool) (q : Int) : List Bool := M.set q.toNat true
def Nfa.marks1 (n : Nfa) (M : List Bool) (p : Int) : List Bool := (n.follow.getD p.toNat []).foldl mark M
def Nfa.marks (n : Nfa) (l : List Int) : List Bool := l.foldl n.marks1 (List.replicate n.sets.length false)
def listTo (M : List Bool) (i : Nat) : List Int := ((List.range i).filter fun j => M.getD j false).map fun (j : Nat) => (j : Int)
def listOf (M : List Bool) : List Int := listTo M M.length
def Nfa.goOn (n : Nfa) (l : List Int) (b : Nat) : List Int := n.with' (listOf (n.marks l)) b
theorem mark_len (M : List Bool) (q : Int) : (mark M q).length = M.length := by simp [mark]
theorem marks1_len (n : Nfa) (M : List Bool) (p : Int) : (n.marks1 M p).length = M.length := by
 unfold Nfa.marks1
 generalize n.follow.getD p.toNat [] = l
 induction l generalizing M with
 | nil => rfl
 | cons q r ih => rw [List.foldl_cons, ih, mark_len]
theorem nmarks_len (n : Nfa) (l : List Int) : (n.marks l).length = n.sets.length := by
 unfold Nfa.marks
 have : ∀ M : List Bool, (l.foldl n.marks1 M).length = M.length := by
  induction l with
  | nil => intro M; rfl
  | cons q r ih => intro M; rw [List.foldl_cons, ih, marks1_len]
 rw [this]; simp
theorem listTo_asc (M : List Bool) {k : Nat} : ∀ i, i ≤ k → Asc k (listTo M i)
 | 0, _ => Asc.nil k
 | i + 1, h => by
   have ih : Asc k (listTo M i) := listTo_asc M i (by omega)
   have hi : ∀ x ∈ listTo M i, x < i := fun x hx => by
    unfold listTo at hx
    obtain ⟨j, hj, rfl⟩ := List.mem_map.1 hx
    have := List.mem_range.1 (List.mem_filter.1 hj).1
    show ((j : Nat) : Int) < i
    omega
   unfold listTo at ih hi ⊢
   rw [List.range_succ, List.filter_append, List.map_append]
   refine ⟨?_, fun x hx => ?_⟩
   ·rw [List.pairwise_append]
    refine ⟨ih.1, ?_, fun x hx y hy => ?_⟩
    ·cases hm : M[i]?.getD false <;> simp [List.filter_cons, hm]
    ·have := hi x hx
     obtain ⟨j, hj, rfl⟩ := List.mem_map.1 hy
     have := (List.mem_filter.1 hj).1
     simp at this
     omega
   ·rcases List.mem_append.1 hx with hx | hx
    ·exact ih.2 x hx
    ·obtain ⟨j, hj, rfl⟩ := List.mem_map.1 hx
     have := (List.mem_filter.1 hj).1
     simp at this
     omega
theorem listTo_succ (M : List Bool) (i : Nat) : listTo M (i + 1) = listTo M i ++ (if M.getD i false then [(i : Int)] else []) := by
 unfold listTo
 rw [List.range_succ, List.filter_append, List.map_append]
 cases hm : M[i]?.getD false <;> simp [List.filter_cons, hm]
theorem marksB_len (M : List Bool) : (M.map rowBs).length = M.length := by simp
set_option maxHeartbeats 2000000 in
theorem goOn_fn (n : Nfa) (hn : n.Ok) (l : List Int) (hl : Asc n.sets.length l) (b : Nat) (hb : b < 256) : PF Tryz.prog 182 [n.pv, .isl 1 (ints l) none, .int .u8 b] (.isl 1 (ints (n.goOn l b)) none) := by
 have hll := hl.len
 have hsz := hn.size
 have hil := ints_len l
 obtain ⟨P, P0, PL, PS⟩ := fold_seq n.marks1 (List.replicate n.sets.length false) l
 have hPl : ∀ i, i ≤ l.length → (P i).length = n.sets.length := by
  intro i
  induction i with
  | zero => intro _; rw [P0]; simp
  | succ i ih => intro hi; rw [PS i _ (List.getElem?_eq_getElem (by omega)), marks1_len, ih (by omega)]
 have hM : n.marks l = P l.length := PL.symm
 have hsl : (n.sets.map Set4.cells).length = n.sets.length := by simp
 have hw := with_fn n (by omega) (listOf (n.marks l)) (listTo_asc _ _ (by rw [nmarks_len]; exact Nat.le_refl _)) b hb
 refine pf_intro rf182_eq rmixed rfl ?_
 (refine hkG ?_)
 refine And.intro (by show _ ∧ _ ∧ _ * ((1 : Nat) : Int) ≤ ((70368744177664 : Nat) : Int) ∧ _ ≤ ((70368744177664 : Nat) : Int); omega) ?_
 (refine hkG ?_)
 refine ⟨[], Nat, fun i => ⟨[(2, .p (.int .u8 b)), (3, .ptr 0 6 0 0), (7, .sl 1 1 0 (n.sets.map Set4.cells).length none), (19, .p (.isl 1 (ints l) none)), (20, .p (i64 l.length)), (21, .p (i64 i))],
  [.mx (n.cells.map .p), .pr 1 ((P i).map rowBs)]⟩, fun i => i ≤ l.length, fun i => l.length - i, ⟨0, Nat.zero_le _, ?_⟩, fun i hi => ?_⟩
 ·((refine ⟨⟨rfl,rfl⟩,?_,?_⟩<;>((repeat'(first|exact TLe.nil|exact HLe.nil _|refine TLe.cons ?_ ?_|refine HLe.cons ?_ ?_|exact KLe.ptr rfl|exact KLe.sl rfl (.inl rfl)|exact KLe.csl rfl|exact KLe.mpr rfl|refine KLe.pe ?_|refine KLe.tup ?_|refine KLe.agg ?_|refine BLe.pe ?_|refine BLe.mpe ?_|refine BLe.ghe ?_|refine BLe.axe ?_ ?_|refine BLe.mx ?_|exact KLeL.nil|refine KLe.fn ?_ ?_|refine KLeL.cons ?_ ?_|exact KLe.und _|exact BLe.dead _))<;>(try with_reducible rfl)))<;>(first|rfl|((refine congrArg (PV.int IntKind.i64) ?_)<;>(first|rfl|omega|(rw [add64 (by omega) (by omega)];omega)|(rw [sub64 (by omega) (by omega)];omega)))|skip))
  rw [P0, Int.toNat_natCast, hsl]
  simp [rowBs]
 ·have hi : i ≤ l.length := hi
  have hPi := hPl i hi
  by_cases hie : i = l.length
  ·subst hie
   have hrow := marksB_len (P l.length)
   rw [hM] at hw
   unfold Nfa.goOn
   rw [hM]
   generalize hMe : P l.length = M at hw hPi hrow hM ⊢
   (refine hkG ?_)
   (refine hkD ?_)
   (refine hkG ?_)
   refine ⟨[.slot 12 1], Nat × Nat × List Int, fun x => ⟨[(2, .p (.int .u8 b)), (3, .ptr 0 6 0 0), (12, .sl 2 1 0 x.2.1 none), (40, .sl 1 1 0 (n.sets.map Set4.cells).length none), (41, .p (i64 (n.sets.map Set4.cells).length)), (42, .p (i64 x.1))],
    [.mx (n.cells.map .p), .pr 1 (M.map rowBs), .pr 1 (ints x.2.2)]⟩, fun x => x.1 ≤ n.sets.length ∧ x.2.2 = listTo M x.1 ∧ x.2.1 = x.2.2.length, fun x => n.sets.length - x.1, ⟨(0, 0, []), ⟨Nat.zero_le _, rfl, rfl⟩, ?_⟩, fun x hx => ?_⟩
   ·((refine ⟨⟨rfl,rfl⟩,?_,?_⟩<;>((repeat'(first|exact TLe.nil|exact HLe.nil _|refine TLe.cons ?_ ?_|refine HLe.cons ?_ ?_|exact KLe.ptr rfl|exact KLe.sl rfl (.inl rfl)|exact KLe.csl rfl|exact KLe.mpr rfl|refine KLe.pe ?_|refine KLe.tup ?_|refine KLe.agg ?_|refine BLe.pe ?_|refine BLe.mpe ?_|refine BLe.ghe ?_|refine BLe.axe ?_ ?_|refine BLe.mx ?_|exact KLeL.nil|refine KLe.fn ?_ ?_|refine KLeL.cons ?_ ?_|exact KLe.und _|exact BLe.dead _))<;>(try with_reducible rfl)))<;>(first|rfl|((refine congrArg (PV.int IntKind.i64) ?_)<;>(first|rfl|omega|(rw [add64 (by omega) (by omega)];omega)|(rw [sub64 (by omega) (by omega)];omega)))|skip))
    exact congrArg (List.map rowBs) hMe
   ·obtain ⟨i, len, acc⟩ := x
    obtain ⟨hi, hac, hle⟩ := hx
    have hi : i ≤ n.sets.length := hi
    have hac : acc = listTo M i := hac
    have hle : len = acc.length := hle
    have hla := ints_len acc
    have hlb := (listTo_asc M i hi).len
    rw [← hac] at hlb
    by_cases hie : i = n.sets.length
    ·have : listOf M = acc := by unfold listOf; rw [hPi, ← hie, hac]
     rw [this] at hw ⊢
     (refine hkG ?_)
     (refine hkD ?_)
     refine vcall_frz [2] hw rfl (KLeL.cons (KLe.pe rfl) (KLeL.cons (KLe.fsl rfl rfl rfl ?_ ?_) (KLeL.cons (KLe.pe rfl) KLeL.nil))) ?_
     ·show (List.take len (ints acc)).length = _
      rw [hle, ← hla, List.take_length]
     ·show PLe (.isl 1 (List.take len (ints acc)) none) _
      rw [hle, ← hla, List.take_length]; exact .refl _
     (refine hkG ?_)
     exact ret_pf rfl rfl rfl
    ·have hlt : i < n.sets.length := by omega
     obtain ⟨z, hz⟩ : ∃ z, M[i]? = some z := ⟨_, List.getElem?_eq_getElem (by omega)⟩
     have hgz : (M.map rowBs)[0 + i]? = some [.b z] := by rw [Nat.zero_add, List.getElem?_map, hz]; rfl
     have hsu := listTo_succ M i
     rw [List.getD_eq_getElem?_getD, hz, ← hac] at hsu
     (refine hkG ?_)
     (refine hkD ?_)
     refine ⟨_, hgz, ?_⟩
     (refine hkG ?_)
     cases z with
     | false =>
       (refine hkC ?_)
       refine ⟨(i + 1, len, acc), ⟨hlt, by rw [hsu]; simp, hle⟩, by show n.sets.length - (i + 1) < n.sets.length - i; omega, ?_⟩
       (exact hkL)
     | true =>
       (refine hkC ?_)
       refine And.intro (by show (len + 1) * 8 ≤ 70368744177664; omega) ?_
       (refine hkG ?_)
       refine ⟨(i + 1, len + 1, acc ++ [(i : Int)]), ⟨hlt, by rw [hsu]; simp, by simp [hle]⟩, by show n.sets.length - (i + 1) < n.sets.length - i; omega, ?_⟩
       ((refine ⟨⟨rfl,rfl⟩,?_,?_⟩<;>((repeat'(first|exact TLe.nil|exact HLe.nil _|refine TLe.cons ?_ ?_|refine HLe.cons ?_ ?_|exact KLe.ptr rfl|exact KLe.sl rfl (.inl rfl)|exact KLe.csl rfl|exact KLe.mpr rfl|refine KLe.pe ?_|refine KLe.tup ?_|refine KLe.agg ?_|refine BLe.pe ?_|refine BLe.mpe ?_|refine BLe.ghe ?_|refine BLe.axe ?_ ?_|refine BLe.mx ?_|exact KLeL.nil|refine KLe.fn ?_ ?_|refine KLeL.cons ?_ ?_|exact KLe.und _|exact BLe.dead _))<;>(try with_reducible rfl)))<;>(first|rfl|((refine congrArg (PV.int IntKind.i64) ?_)<;>(first|rfl|omega|(rw [add64 (by omega) (by omega)];omega)|(rw [sub64 (by omega) (by omega)];omega)))|skip))
       exact (ints_app acc [(i : Int)]).symm
  ·have hlt : i < l.length := by omega
   obtain ⟨p, hp⟩ : ∃ p, l[i]? = some p := ⟨_, List.getElem?_eq_getElem hlt⟩
   have hpr := hl.2 p (mem_get hp)
   have hg := ints_get hp
   have hPS := PS i p hp
   have e1 := hn.follow
   obtain ⟨F, hF⟩ : ∃ F, n.follow[p.toNat]? = some F := ⟨_, List.getElem?_eq_getElem (by omega)⟩
   have hFa := hn.asc F (mem_get hF)
   have hFl := hFa.len
   have hilF := ints_len F
   have hgF : (n.follow.map rowLs)[p.toNat]? = some [.isl 1 (ints F) none] := by rw [List.getElem?_map, hF]; rfl
   have hlF : (n.follow.map rowLs).length = n.sets.length := by simp [e1]
   unfold Nfa.marks1 at hPS
   rw [List.getD_eq_getElem?_getD, hF] at hPS
   simp only [Option.getD_some] at hPS
   (refine hkG ?_)
   (refine hkD ?_)
   refine ⟨_, hg, ?_⟩
   (refine hkG ?_)
   refine ⟨_, hgF, ?_⟩
   (refine hkG ?_)
   obtain ⟨Q, Q0, QL, QS⟩ := fold_seq mark (P i) F
   have hQl : ∀ j, j ≤ F.length → (Q j).length = n.sets.length := by
    intro j
    induction j with
    | zero => intro _; rw [Q0]; exact hPi
    | succ j ih => intro hj; rw [QS j _ (List.getElem?_eq_getElem (by omega)), mark_len, ih (by omega)]
   rw [← QL] at hPS
   refine ⟨[], Nat, fun j => ⟨[(2, .p (.int .u8 b)), (3, .ptr 0 6 0 0), (7, .sl 1 1 0 (n.sets.map Set4.cells).length none), (19, .p (.isl 1 (ints l) none)), (20, .p (i64 l.length)), (21, .p (i64 i)), (29, .p (.isl 1 (ints F) none)), (30, .p (i64 F.length)), (31, .p (i64 j))],
    [.mx (n.cells.map .p), .pr 1 ((Q j).map rowBs)]⟩, fun j => j ≤ F.length, fun j => F.length - j, ⟨0, Nat.zero_le _, ?_⟩, fun j hj => ?_⟩
   ·((refine ⟨⟨rfl,rfl⟩,?_,?_⟩<;>((repeat'(first|exact TLe.nil|exact HLe.nil _|refine TLe.cons ?_ ?_|refine HLe.cons ?_ ?_|exact KLe.ptr rfl|exact KLe.sl rfl (.inl rfl)|exact KLe.csl rfl|exact KLe.mpr rfl|refine KLe.pe ?_|refine KLe.tup ?_|refine KLe.agg ?_|refine BLe.pe ?_|refine BLe.mpe ?_|refine BLe.ghe ?_|refine BLe.axe ?_ ?_|refine BLe.mx ?_|exact KLeL.nil|refine KLe.fn ?_ ?_|refine KLeL.cons ?_ ?_|exact KLe.und _|exact BLe.dead _))<;>(try with_reducible rfl)))<;>(first|rfl|((refine congrArg (PV.int IntKind.i64) ?_)<;>(first|rfl|omega|(rw [add64 (by omega) (by omega)];omega)|(rw [sub64 (by omega) (by omega)];omega)))|skip))
    rw [Q0]
   ·have hj : j ≤ F.length := hj
    have hQj := hQl j hj
    by_cases hje : j = F.length
    ·subst hje
     (refine hkG ?_)
     (refine hkD ?_)
     refine ⟨i + 1, hlt, by show l.length - (i + 1) < l.length - i; omega, ?_⟩
     ((refine ⟨⟨rfl,rfl⟩,?_,?_⟩<;>((repeat'(first|exact TLe.nil|exact HLe.nil _|refine TLe.cons ?_ ?_|refine HLe.cons ?_ ?_|exact KLe.ptr rfl|exact KLe.sl rfl (.inl rfl)|exact KLe.csl rfl|exact KLe.mpr rfl|refine KLe.pe ?_|refine KLe.tup ?_|refine KLe.agg ?_|refine BLe.pe ?_|refine BLe.mpe ?_|refine BLe.ghe ?_|refine BLe.axe ?_ ?_|refine BLe.mx ?_|exact KLeL.nil|refine KLe.fn ?_ ?_|refine KLeL.cons ?_ ?_|exact KLe.und _|exact BLe.dead _))<;>(try with_reducible rfl)))<;>(first|rfl|((refine congrArg (PV.int IntKind.i64) ?_)<;>(first|rfl|omega|(rw [add64 (by omega) (by omega)];omega)|(rw [sub64 (by omega) (by omega)];omega)))|skip))
     rw [hPS]
    ·have hjlt : j < F.length := by omega
     obtain ⟨q, hq⟩ : ∃ q, F[j]? = some q := ⟨_, List.getElem?_eq_getElem hjlt⟩
     have hqr := hFa.2 q (mem_get hq)
     have hgq := ints_get hq
     have hQS := QS j q hq
     obtain ⟨z, hz⟩ : ∃ z, (Q j)[q.toNat]? = some z := ⟨_, List.getElem?_eq_getElem (by omega)⟩
     have hgz : ((Q j).map rowBs)[0 + q.toNat]? = some [.b z] := by rw [Nat.zero_add, List.getElem?_map, hz]; rfl
     (refine hkG ?_)
     (refine hkD ?_)
     refine ⟨_, hgq, ?_⟩
     (refine hkG ?_)
     refine ⟨_, hgz, rfl, Nat.le_refl 1, ?_⟩
     (refine hkG ?_)
     refine ⟨j + 1, hjlt, by show F.length - (j + 1) < F.length - j; omega, ?_⟩
     ((refine ⟨⟨rfl,rfl⟩,?_,?_⟩<;>((repeat'(first|exact TLe.nil|exact HLe.nil _|refine TLe.cons ?_ ?_|refine HLe.cons ?_ ?_|exact KLe.ptr rfl|exact KLe.sl rfl (.inl rfl)|exact KLe.csl rfl|exact KLe.mpr rfl|refine KLe.pe ?_|refine KLe.tup ?_|refine KLe.agg ?_|refine BLe.pe ?_|refine BLe.mpe ?_|refine BLe.ghe ?_|refine BLe.axe ?_ ?_|refine BLe.mx ?_|exact KLeL.nil|refine KLe.fn ?_ ?_|refine KLeL.cons ?_ ?_|exact KLe.und _|exact BLe.dead _))<;>(try with_reducible rfl)))<;>(first|rfl|((refine congrArg (PV.int IntKind.i64) ?_)<;>(first|rfl|omega|(rw [add64 (by omega) (by omega)];omega)|(rw [sub64 (by omega) (by omega)];omega)))|skip))
     rw [hQS, Nat.zero_add]
     unfold mark
     rw [List.map_set]
     rfl
end Hk
namespace Hk
open Go Go.Proofs
set_option linter.unusedVariables false
set_option linter.unusedSimpArgs false
set_option maxRecDepth 100000
structure Nfa.May (n : Nfa) : Prop extends n.Ok where
 rule : ∀ r ∈ n.rules, 0 ≤ r ∧ r < 40
 emp : -1 ≤ n.emp ∧ n.emp < 40
theorem asc_rising {k : Nat} {l : List Int} (h : Asc k l) : risingB k l = true := risingB_asc.2 h
set_option maxHeartbeats 4000000 in
theorem nmay_fn (n : Nfa) (hn : n.May) : PF Tryz.prog 118 [n.pv] (.b true) := by
 have hsz := hn.size
 have e1 := hn.rules
 have e2 := hn.follow
 have e3 := hn.ends
 have he := hn.emp
 have hl1 := ints_len n.rules
 have hl2 : (n.follow.map rowLs).length = n.follow.length := by simp
 have hl3 : (n.ends.map rowBs).length = n.ends.length := by simp
 have hl4 : (n.sets.map Set4.cells).length = n.sets.length := by simp
 have hf := rising_fn n (by omega) n.first (by have := hn.first.len; omega)
 rw [asc_rising hn.first] at hf
 refine pf_intro rf118_eq rmixed rfl ?_
 (refine hkG ?_)
 (refine hkD ?_)
 refine vcall_pf hf rfl rfl ?_
 (refine hkG ?_)
 (refine hkC ?_)
 refine ⟨[], Nat, fun i => ⟨[(1, .ptr 0 6 0 0), (48, .p (i64 (n.sets.map Set4.cells).length)), (49, .p (i64 i))], [.mx (n.cells.map .p)]⟩,
  fun i => i ≤ n.sets.length, fun i => n.sets.length - i, ⟨0, Nat.zero_le _, ?_⟩, fun i hi => ?_⟩
 ·(exact hkL)
 ·have hi : i ≤ n.sets.length := hi
  by_cases hie : i = n.sets.length
  ·(refine hkG ?_)
   (refine hkD ?_)
   exact ret_pf rfl rfl rfl
  ·have hlt : i < n.sets.length := by omega
   obtain ⟨r, hr⟩ : ∃ r, n.rules[i]? = some r := ⟨_, List.getElem?_eq_getElem (by omega)⟩
   obtain ⟨F, hF⟩ : ∃ F, n.follow[i]? = some F := ⟨_, List.getElem?_eq_getElem (by omega)⟩
   have hr2 := hn.rule r (mem_get hr)
   have hFa := hn.asc F (mem_get hF)
   have hgr := ints_get hr
   have hgF : (n.follow.map rowLs)[i]? = some [.isl 1 (ints F) none] := by rw [List.getElem?_map, hF]; rfl
   have hf := rising_fn n (by omega) F (by have := hFa.len; omega)
   rw [asc_rising hFa] at hf
   (refine hkG ?_)
   (refine hkD ?_)
   refine ⟨_, hgr, ?_⟩
   (refine hkG ?_)
   (refine hkD ?_)
   refine ⟨_, hgr, ?_⟩
   (refine hkG ?_)
   (refine hkD ?_)
   refine ⟨_, hgF, ?_⟩
   (refine hkG ?_)
   refine vcall_pf hf rfl rfl ?_
   (refine hkG ?_)
   (refine hkC ?_)
   refine ⟨i + 1, hlt, by show n.sets.length - (i + 1) < n.sets.length - i; omega, ?_⟩
   (exact hkL)
theorem begin_fn (n : Nfa) (hn : n.May) (b : Nat) (hb : b < 256) : PF Tryz.prog 120 [n.pv, .int .u8 b] (.isl 1 (ints (n.with' n.first b)) none) := by
 have hsz := hn.size
 refine pf_intro rf120_eq rmixed rfl ?_
 (refine hkG ?_)
 refine vcall_pf (nmay_fn n hn) rfl rfl ?_
 (refine hkG ?_)
 (refine hkC ?_)
 refine vcall_pf (with_fn n (by omega) n.first hn.first b hb) rfl rfl ?_
 (refine hkG ?_)
 exact ret_pf rfl rfl rfl
theorem go_fn (n : Nfa) (hn : n.May) (l : List Int) (hl : Asc n.sets.length l) (b : Nat) (hb : b < 256) : PF Tryz.prog 121 [n.pv, .isl 1 (ints l) none, .int .u8 b] (.isl 1 (ints (n.goOn l b)) none) := by
 have hsz := hn.size
 have hf := rising_fn n (by omega) l (by have := hl.len; omega)
 rw [asc_rising hl] at hf
 refine pf_intro rf121_eq rmixed rfl ?_
 (refine hkG ?_)
 refine vcall_pf (nmay_fn n hn) rfl rfl ?_
 (refine hkG ?_)
 (refine hkC ?_)
 refine vcall_pf hf rfl rfl ?_
 (refine hkG ?_)
 (refine hkC ?_)
 refine vcall_pf (goOn_fn n hn.toOk l hl b hb) rfl rfl ?_
 (refine hkG ?_)
 exact ret_pf rfl rfl rfl
theorem ntag_fn (n : Nfa) (hn : n.May) (l : List Int) (hl : Asc n.sets.length l) : PF Tryz.prog 123 [n.pv, .isl 1 (ints l) none] (i64 (n.tag l)) := by
 have hsz := hn.size
 have hf := rising_fn n (by omega) l (by have := hl.len; omega)
 rw [asc_rising hl] at hf
 refine pf_intro rf123_eq rmixed rfl ?_
 (refine hkG ?_)
 refine vcall_pf (nmay_fn n hn) rfl rfl ?_
 (refine hkG ?_)
 (refine hkC ?_)
 refine vcall_pf hf rfl rfl ?_
 (refine hkG ?_)
 (refine hkC ?_)
 refine vcall_pf (tag_fn n hn.toOk l hl) rfl rfl ?_
 (refine hkG ?_)
 exact ret_pf rfl rfl rfl
end Hk
namespace Hk
open Go Go.Proofs
set_option linter.unusedVariables false
set_option linter.unusedSimpArgs false
set_option maxRecDepth 100000
theorem rindex_fn (zs : List Tr) (cap : Option Nat) (F : Nat) (caps : List PV) (p : Tr → Bool) (hz : zs.length < 2 ^ 60) (hF : ∀ z ∈ zs, PF Tryz.prog F (z.pv :: caps) (.b (p z))) :
 PF Tryz.prog 168 [.isl 8 (Tr.rowsL zs) cap, .fn F [] caps] (i64 (match zs.findIdx? p with | some i => (i : Int) | none => -1)) := by
 have hil := Tr.rows_len zs
 refine pf_intro rf168_eq rmixed rfl ?_
 (refine hkG ?_)
 refine ⟨[], Nat, fun i => ⟨[(0, .p (.isl 8 (Tr.rowsL zs) cap)), (1, .p (.fn F [] caps)), (7, .p (i64 zs.length)), (8, .p (i64 i))], []⟩,
  fun i => i ≤ zs.length ∧ ∀ j z, j < i → zs[j]? = some z → p z = false, fun i => zs.length - i, ⟨0, ⟨Nat.zero_le _, fun j z h _ => absurd h (Nat.not_lt_zero _)⟩, ?_⟩, fun i hi => ?_⟩
 ·(exact hkL)
 ·obtain ⟨hi, hno⟩ := hi
  by_cases hie : i = zs.length
  ·have e : zs.findIdx? p = none := by
    rw [List.findIdx?_eq_none_iff]
    intro z hz
    obtain ⟨j, hj, rfl⟩ := List.mem_iff_getElem.1 hz
    exact hno j _ (by omega) (List.getElem?_eq_getElem hj)
   rw [e]
   subst hie
   (refine hkG ?_)
   (refine hkD ?_)
   exact ret_pf rfl rfl rfl
  ·have hlt : i < zs.length := by omega
   obtain ⟨z, hzi⟩ : ∃ z, zs[i]? = some z := ⟨_, List.getElem?_eq_getElem hlt⟩
   have hg := Tr.rows_get hzi
   have hFz := hF z (mem_get hzi)
   have h8 := z.take8
   have hfi : p z = true → zs.findIdx? p = some i := fun hb => by
    rw [List.findIdx?_eq_some_iff_getElem]
    refine ⟨hlt, ?_, fun j hj => ?_⟩
    ·rw [(List.getElem?_eq_some_iff.1 hzi).2]; exact hb
    ·rw [hno j _ hj (List.getElem?_eq_getElem (by omega))]; simp
   have hnx : p z = false → ∀ j z', j < i + 1 → zs[j]? = some z' → p z' = false := fun hb j z' hj hz' => by
    by_cases e : j = i
    ·subst e; rw [hzi] at hz'; cases hz'; exact hb
    ·exact hno j z' (by omega) hz'
   generalize p z = b at *
   clear hno
   obtain ⟨tk, ts, tsub, tlo, thi⟩ := z
   (refine hkG ?_)
   (refine hkD ?_)
   refine ⟨_, hg, ?_⟩
   (refine hkG ?_)
   refine vcall_pf hFz allP_cons rfl ?_
   (refine hkG ?_)
   refine bk_split (fun hb => ?_) (fun hb => ?_)
   ·(refine hkG ?_)
    refine ret_pf rfl rfl (congrArg (PV.int .i64) ?_)
    rw [hfi hb]
   ·(refine hkG ?_)
    refine ⟨i + 1, ⟨hlt, hnx hb⟩, by show zs.length - (i + 1) < zs.length - i; omega, ?_⟩
    (exact hkL)
theorem rcontains_fn (zs : List Tr) (cap : Option Nat) (F : Nat) (caps : List PV) (p : Tr → Bool) (hz : zs.length < 2 ^ 60) (hF : ∀ z ∈ zs, PF Tryz.prog F (z.pv :: caps) (.b (p z))) :
 PF Tryz.prog 112 [.isl 8 (Tr.rowsL zs) cap, .fn F [] caps] (.b (zs.any p)) := by
 refine pf_intro rf112_eq rmixed rfl ?_
 (refine hkG ?_)
 refine vcall_pf (rindex_fn zs cap F caps p hz hF) rfl rfl ?_
 (refine hkG ?_)
 refine ret_pf rfl rfl (congrArg PV.b ?_)
 show decide (0 ≤ _) = _
 cases h : zs.findIdx? p with
 | none =>
   rw [List.findIdx?_eq_none_iff] at h
   have : zs.any p = false := by rw [List.any_eq_false]; simpa using h
   rw [this]; decide
 | some i =>
   have : zs.any p = true := by
    obtain ⟨h1, h2, _⟩ := List.findIdx?_eq_some_iff_getElem.1 h
    rw [List.any_eq_true]; exact ⟨_, List.getElem_mem h1, h2⟩
   rw [this]; simp
theorem build1_fn (T : Tr) (hT : T.Fit) (hn : T.nodes < 2 ^ 61) : PF Tryz.prog 113 [T.pv] (.b (!T.may)) := by
 have hm := rxMay_fn T hT hn
 generalize T.may = b at *
 obtain ⟨k, s, sub, lo, hi⟩ := T
 refine pf_intro rf113_eq rmixed rfl ?_
 (refine hkG ?_)
 refine vcall_pf hm rfl rfl ?_
 (refine hkG ?_)
 exact ret_pf rfl rfl rfl
def bStep (m : Mk) (k : Nat) (T : Tr) : Mk :=
 { (T.build k m).1 with
  first := unionI (T.build k m).1.first (T.build k m).2.first
  ends := (T.build k m).2.last.foldl mark (T.build k m).1.ends
  emp := if (T.build k m).2.empty = true ∧ (T.build k m).1.emp < 0 then (k : Int) else (T.build k m).1.emp }
def bFrom : Mk → Nat → List Tr → Mk
 | m, _, [] => m
 | m, k, T :: r => bFrom (bStep m k T) (k + 1) r
theorem bFrom_snoc : ∀ (l : List Tr) (m : Mk) (k : Nat) (T : Tr), bFrom m k (l ++ [T]) = bStep (bFrom m k l) (k + l.length) T
 | [], m, k, T => rfl
 | x :: l, m, k, T => by
   rw [List.cons_append, bFrom, bFrom_snoc l, bFrom, List.length_cons]
   congr 1; omega
def Mk.zero : Mk := ⟨[], [], [], [], [], -1⟩
def Mk.nfa (m : Mk) : Nfa := ⟨m.sets, m.rules, m.first, m.follow, m.ends, m.emp⟩
def Nfa.zero : Nfa := ⟨[], [], [], [], [], 0⟩
def allPlaces (l : List Tr) : Nat := (l.map Tr.places).sum
def buildI (l : List Tr) : Nfa × Int :=
 if l.length < 1 ∨ 40 < l.length ∨ l.any (fun T => !T.may) = true then (Nfa.zero, 1)
 else if 2000 < allPlaces l then (Nfa.zero, 4)
 else ((bFrom Mk.zero 0 l).nfa, 0)
structure Mk.BOk (m : Mk) : Prop extends m.Ok where
 first : Asc m.n m.first
 emp : -1 ≤ m.emp ∧ m.emp < 40
 rule : ∀ r ∈ m.rules, 0 ≤ r ∧ r < 40
theorem marksF_len : ∀ (l : List Int) (M : List Bool), (l.foldl mark M).length = M.length
 | [], M => rfl
 | q :: l, M => by rw [List.foldl_cons, marksF_len l, mark_len]
def KeepB (k : Int) (g : Bld) : Prop := ∀ m : Mk, (g m).1.first = m.first ∧ (g m).1.emp = m.emp ∧ ∀ r ∈ (g m).1.rules, r ∈ m.rules ∨ r = k
theorem keep_id (k : Int) (p : Part) : KeepB k fun m => (m, p) := fun m => ⟨rfl, rfl, fun r h => .inl h⟩
theorem keep_alts {k : Int} : ∀ (l : List Bld), (∀ g ∈ l, KeepB k g) → ∀ (z : Mk × Part), (l.foldl altStep z).1.first = z.1.first ∧ (l.foldl altStep z).1.emp = z.1.emp ∧ ∀ r ∈ (l.foldl altStep z).1.rules, r ∈ z.1.rules ∨ r = k
 | [], _, z => ⟨rfl, rfl, fun r h => .inl h⟩
 | g :: l, h, z => by
   obtain ⟨a, b, c⟩ := keep_alts l (fun g hg => h g (by simp [hg])) (altStep z g)
   obtain ⟨d, e, f⟩ := h g (by simp) z.1
   exact ⟨a.trans d, b.trans e, fun r hr => (c r hr).elim (f r) .inr⟩
theorem keep_cats {k : Int} : ∀ (l : List Bld), (∀ g ∈ l, KeepB k g) → ∀ (z : Mk × Part), (l.foldl catStep z).1.first = z.1.first ∧ (l.foldl catStep z).1.emp = z.1.emp ∧ ∀ r ∈ (l.foldl catStep z).1.rules, r ∈ z.1.rules ∨ r = k
 | [], _, z => ⟨rfl, rfl, fun r h => .inl h⟩
 | g :: l, h, z => by
   obtain ⟨a, b, c⟩ := keep_cats l (fun g hg => h g (by simp [hg])) (catStep z g)
   obtain ⟨d, e, f⟩ := h g (by simp) z.1
   exact ⟨a.trans d, b.trans e, fun r hr => (c r hr).elim (f r) .inr⟩
theorem keep_copies {k : Int} {g : Bld} (h : KeepB k g) : ∀ (n : Nat) (x : Mk × List Part), (copyM g n x).1.first = x.1.first ∧ (copyM g n x).1.emp = x.1.emp ∧ ∀ r ∈ (copyM g n x).1.rules, r ∈ x.1.rules ∨ r = k
 | 0, x => ⟨rfl, rfl, fun r h => .inl h⟩
 | n + 1, x => by
   obtain ⟨a, b, c⟩ := keep_copies h n (copyStep g x)
   obtain ⟨d, e, f⟩ := h x.1
   exact ⟨a.trans d, b.trans e, fun r hr => (c r hr).elim (f r) .inr⟩
theorem keep_rest : ∀ (l : List Part) (z : Mk × Part), (l.foldl restStep z).1.first = z.1.first ∧ (l.foldl restStep z).1.emp = z.1.emp ∧ (l.foldl restStep z).1.rules = z.1.rules
 | [], z => ⟨rfl, rfl, rfl⟩
 | p :: l, z => keep_rest l (restStep z p)
theorem keep_must : ∀ (l : List Part) (z : Mk × Part), (l.foldl mustStep z).1.first = z.1.first ∧ (l.foldl mustStep z).1.emp = z.1.emp ∧ (l.foldl mustStep z).1.rules = z.1.rules
 | [], z => ⟨rfl, rfl, rfl⟩
 | p :: l, z => keep_must l (mustStep z p)
theorem keep_rep {k : Int} {g : Bld} (h : KeepB k g) (lo hi : Int) : KeepB k (repM g lo hi) := fun m => by
 obtain ⟨a, b, c⟩ := keep_copies h (copiesI lo hi).toNat (m, [])
 have ho : ∀ x : Mk × List Part, (openM lo hi x).1.first = x.1.first ∧ (openM lo hi x).1.emp = x.1.emp ∧ (openM lo hi x).1.rules = x.1.rules := fun x => by
  unfold openM; split <;> exact ⟨rfl, rfl, rfl⟩
 obtain ⟨d, e, f⟩ := ho (copyM g (copiesI lo hi).toNat (m, []))
 have hj : ∀ x : Mk × List Part, (joinM lo x).1.first = x.1.first ∧ (joinM lo x).1.emp = x.1.emp ∧ (joinM lo x).1.rules = x.1.rules := fun x => by
  obtain ⟨a1, b1, c1⟩ := keep_rest (x.2.drop (min lo.toNat x.2.length)).reverse (x.1, Part.none' true)
  obtain ⟨a2, b2, c2⟩ := keep_must (x.2.take (min lo.toNat x.2.length)) (((x.2.drop (min lo.toNat x.2.length)).reverse.foldl restStep (x.1, Part.none' true)).1, Part.none' true)
  exact ⟨a2.trans a1, b2.trans b1, c2.trans c1⟩
 obtain ⟨a3, b3, c3⟩ := hj (openM lo hi (copyM g (copiesI lo hi).toNat (m, [])))
 refine ⟨a3.trans (d.trans a), b3.trans (e.trans b), fun r hr => ?_⟩
 have hr : r ∈ (joinM lo (openM lo hi (copyM g (copiesI lo hi).toNat (m, [])))).1.rules := hr
 rw [c3, f] at hr
 exact c r hr
theorem tree_keep (k : Int) (T : Tr) (hok : T.ok = true) : KeepB k (T.build k) := by
 induction T using Tr.ind' with | h kk s sub lo hi ih => ?_
 have hk := ok_kinds hok
 have ih := fun t ht => ih t ht (ok_sub hok ht)
 have ihl : ∀ g ∈ sub.map (Tr.build k), KeepB k g := fun g hg => by
  obtain ⟨t, ht, rfl⟩ := List.mem_map.1 hg
  exact ih t ht
 intro m
 rcases hk with ⟨rfl, rfl⟩ | ⟨rfl, rfl⟩ | ⟨rfl, _⟩ | ⟨rfl, _⟩ | ⟨rfl, h1, hlo⟩
 ·rw [build0]; exact keep_id k _ m
 ·have hb : (Tr.mk 1 s [] lo hi).build k m = (m.place s k, m.placed) := by rw [Tr.build]; exact if_pos rfl
  rw [hb]
  refine ⟨rfl, rfl, fun r hr => ?_⟩
  simp only [Mk.place, List.mem_append, List.mem_singleton] at hr
  exact hr
 ·rw [build2]; exact keep_cats _ ihl _
 ·rw [build3]; exact keep_alts _ ihl _
 ·obtain ⟨t, rfl⟩ : ∃ t, sub = [t] := List.length_eq_one_iff.1 h1
  rw [build4]
  split
  ·exact keep_id k _ m
  ·exact keep_rep (ih t (by simp)) lo hi m
theorem bStep_ok {m : Mk} (h : m.BOk) {k : Nat} (hk : k < 40) {T : Tr} (hT : T.ok = true) (hn : m.n + T.places ≤ 2000) : (bStep m k T).BOk ∧ (bStep m k T).n = m.n + T.places := by
 obtain ⟨a, b, c⟩ := tree_good (k : Int) T hT m h.toOk hn
 obtain ⟨d, e, f⟩ := tree_keep (k : Int) T hT m
 refine ⟨⟨⟨a.rules, a.follow, ?_, a.asc⟩, ?_, ?_, fun r hr => ?_⟩, b⟩
 ·show (_ : List Bool).length = _
  rw [show (bStep m k T).ends = (T.build k m).2.last.foldl mark (T.build k m).1.ends from rfl, marksF_len]; exact a.ends
 ·show Asc (T.build k m).1.n (unionI (T.build k m).1.first (T.build k m).2.first)
  refine Asc.union ?_ c.1
  rw [d, b]; exact h.first.more (by omega)
 ·show -1 ≤ (if _ then (k : Int) else (T.build k m).1.emp) ∧ _ < _
  rw [show (bStep m k T).emp = if (T.build k m).2.empty = true ∧ (T.build k m).1.emp < 0 then (k : Int) else (T.build k m).1.emp from rfl, e]
  have := h.emp
  split <;> omega
 ·rcases f r hr with hr | rfl
  ·exact h.rule r hr
  ·omega
theorem zero_ok : Mk.zero.BOk := ⟨⟨rfl, rfl, rfl, fun l hl => by cases hl⟩, Asc.nil _, by decide, fun r hr => by cases hr⟩
theorem bFrom_ok : ∀ (l : List Tr) (m : Mk) (k : Nat), m.BOk → (∀ T ∈ l, T.ok = true) → k + l.length ≤ 40 → m.n + allPlaces l ≤ 2000 → (bFrom m k l).BOk ∧ (bFrom m k l).n = m.n + allPlaces l
 | [], m, k, h, _, _, _ => ⟨h, rfl⟩
 | T :: l, m, k, h, hl, hk, hn => by
   have e : allPlaces (T :: l) = T.places + allPlaces l := by simp [allPlaces]
   rw [List.length_cons] at hk
   obtain ⟨a, b⟩ := bStep_ok h (k := k) (by omega) (hl T (by simp)) (by omega)
   obtain ⟨c, d⟩ := bFrom_ok l _ (k + 1) a (fun T hT => hl T (by simp [hT])) (by omega) (by omega)
   exact ⟨c, by rw [bFrom, d]; omega⟩
theorem Mk.BOk.may {m : Mk} (h : m.BOk) (hn : m.n ≤ 2000) : m.nfa.May := ⟨⟨hn, h.rules, h.follow, h.ends, h.first, h.asc⟩, h.rule, h.emp⟩
end Hk
namespace Hk
open Go Go.Proofs
set_option linter.unusedVariables false
set_option linter.unusedSimpArgs false
set_option maxRecDepth 100000
def Mk.H1 (m : Mk) : List Blk :=
 [.mx [.sl 2 4 0 m.n none, .sl 3 1 0 m.n none, .p (.isl 1 (ints m.first) none), .sl 4 1 0 m.n none, .sl 5 1 0 m.n none, .p (i64 m.emp)],
  .pr 4 (m.sets.map Set4.cells), .pr 1 (m.rules.map rowI), .pr 1 (m.follow.map rowL), .pr 1 (m.ends.map rowT)]
def nil6 (e : Int) : Blk := .mx [.p nilSl, .p nilSl, .p nilSl, .p nilSl, .p nilSl, .p (i64 e)]
def BuildC (l : List Tr) (cap : Option Nat) : Prop := Fn Tryz.prog 44 [.p (.isl 8 (Tr.rowsL l) cap)] [] [] (fun r H => H = [] ∧ r = .tup [.p (buildI l).1.pv, .p (i64 (buildI l).2)])
theorem build_bad (l : List Tr) (cap : Option Nat) (hl : l.length < 2 ^ 40) (hT : ∀ T ∈ l, T.Fit) (hn : ∀ T ∈ l, T.nodes < 2 ^ 61) (hb : l.length < 1 ∨ 40 < l.length ∨ l.any (fun T => !T.may) = true) : BuildC l cap := by
 have hbi : buildI l = (Nfa.zero, 1) := if_pos hb
 unfold BuildC
 rw [hbi]
 have hil := Tr.rows_len l
 have hc := rcontains_fn l none 113 [] (fun T => !T.may) (by omega) (fun z hz => build1_fn z (hT z hz) (hn z hz))
 have fin : ∀ {h : List Blk} {fz kp : Nat → Bool}, KLe h fz kp (AV.tup [.p (.agg [nilSl, nilSl, nilSl, nilSl, nilSl, i64 0]), .p (i64 1)]) (.tup [.p (Nfa.zero).pv, .p (i64 1)]) := fun {h fz kp} =>
  KLe.tup (KLeL.cons (KLe.p (PLe.agg (.cons (.nil (.inl rfl)) (.cons (.nil (.inl rfl)) (.cons (.nil (.inl rfl)) (.cons (.nil (.inl rfl)) (.cons (.nil (.inl rfl)) (.refl _)))))))) (KLeL.cons (KLe.pe rfl) KLeL.nil))
 generalize l.any (fun T => !T.may) = bad at *
 by_cases h1 : l.length < 1
 ·refine f_intro rf44_eq rmixed rfl ?_
  (refine hkG ?_)
  (refine hkD ?_)
  refine ⟨_, [], ⟨rfl, rfl⟩, ⟨rfl, rfl⟩, fin, HLe.nil _⟩
 ·by_cases h2 : 40 < l.length
  ·refine f_intro rf44_eq rmixed rfl ?_
   (refine hkG ?_)
   (refine hkD ?_)
   refine ⟨_, [], ⟨rfl, rfl⟩, ⟨rfl, rfl⟩, fin, HLe.nil _⟩
  ·have h3 : bad = true := (hb.resolve_left h1).resolve_left h2
   subst h3
   refine f_intro rf44_eq rmixed rfl ?_
   (refine hkG ?_)
   (refine hkD ?_)
   refine vcall_flat0 hc (KLeL.cons (KLe.p (PLe.isl (.refl _) (.inl rfl))) (KLeL.cons (KLe.pe rfl) KLeL.nil)) ?_
   (refine hkG ?_)
   refine ⟨_, [], ⟨rfl, rfl⟩, ⟨rfl, rfl⟩, fin, HLe.nil _⟩
theorem all_sum (l : List Tr) (i : Nat) : ((l.map Tr.places).take i).sum ≤ i * 1000000 := by
 induction l generalizing i with
 | nil => simp
 | cons T l ih =>
   cases i with
   | zero => simp
   | succ i =>
     have := ih i
     have := places_le T
     simp only [List.map_cons, List.take_succ_cons, List.sum_cons]
     omega
set_option maxHeartbeats 16000000 in
theorem build_good (l : List Tr) (cap : Option Nat) (hl : l.length < 2 ^ 40) (hT : ∀ T ∈ l, T.Fit) (hn : ∀ T ∈ l, T.nodes < 2 ^ 61) (hb : ¬ (l.length < 1 ∨ 40 < l.length ∨ l.any (fun T => !T.may) = true)) : BuildC l cap := by
 have hbi : buildI l = if 2000 < allPlaces l then (Nfa.zero, 4) else ((bFrom Mk.zero 0 l).nfa, 0) := if_neg hb
 unfold BuildC
 rw [hbi]
 have hil := Tr.rows_len l
 have hc := rcontains_fn l none 113 [] (fun T => !T.may) (by omega) (fun z hz => build1_fn z (hT z hz) (hn z hz))
 have h1 : ¬ l.length < 1 := fun h => hb (.inl h)
 have h2 : ¬ 40 < l.length := fun h => hb (.inr (.inl h))
 have h3 : l.any (fun T => !T.may) = false := by cases h : l.any (fun T => !T.may) with
  | false => rfl
  | true => exact (hb (.inr (.inr h))).elim
 have hmay : ∀ T ∈ l, T.may = true := fun T hT => by
  rw [List.any_eq_false] at h3
  have := h3 T hT
  simpa using this
 have hok : ∀ T ∈ l, T.ok = true ∧ T.nodes ≤ 300 := fun T hT => by
  have := hmay T hT
  unfold Tr.may at this
  simp only [Bool.and_eq_true, decide_eq_true_eq] at this
  exact ⟨this.2, this.1.1⟩
 rw [h3] at hc
 refine f_intro rf44_eq rmixed rfl ?_
 (refine hkG ?_)
 (refine hkD ?_)
 refine vcall_flat0 hc (KLeL.cons (KLe.p (PLe.isl (.refl _) (.inl rfl))) (KLeL.cons (KLe.pe rfl) KLeL.nil)) ?_
 (refine hkG ?_)
 refine ⟨[], Nat, fun i => ⟨[(0, .p (.isl 8 (Tr.rowsL l) cap)), (2, .ptr 0 6 0 0), (4, .p (i64 ((l.map Tr.places).take i).sum)), (26, .p (.isl 8 (Tr.rowsL l) cap)), (27, .p (i64 l.length)), (28, .p (i64 i))], [nil6 0]⟩,
  fun i => i ≤ l.length, fun i => l.length - i, ⟨0, Nat.zero_le _, ?_⟩, fun i hi' => ?_⟩
 ·(exact hkL)
  trace_state
 ·have hi' : i ≤ l.length := hi'
  have hsum := all_sum l i
  by_cases hie : i = l.length
  ·subst hie
   have hsa : ((l.map Tr.places).take l.length).sum = allPlaces l := by unfold allPlaces; rw [List.take_of_length_le (by simp)]
   by_cases hmany : 2000 < allPlaces l
   ·rw [if_pos hmany]
    (refine hkG ?_)
    (refine hkD ?_)
    refine ⟨_, [], ⟨rfl, rfl⟩, ⟨rfl, rfl⟩, ?_, HLe.nil _⟩
    exact KLe.tup (KLeL.cons (KLe.p (PLe.agg (.cons (.nil (.inl rfl)) (.cons (.nil (.inl rfl)) (.cons (.nil (.inl rfl)) (.cons (.nil (.inl rfl)) (.cons (.nil (.inl rfl)) (.refl _)))))))) (KLeL.cons (KLe.pe rfl) KLeL.nil))
   ·rw [if_neg hmany]
    obtain ⟨P, hP⟩ : ∃ P : Nat → Mk, P = fun i => bFrom Mk.zero 0 (l.take i) := ⟨_, rfl⟩
    have P0 : P 0 = Mk.zero := by rw [hP]; rfl
    have PL : P l.length = bFrom Mk.zero 0 l := by rw [hP]; show bFrom _ _ (l.take l.length) = _; rw [List.take_length]
    have PS : ∀ i T, l[i]? = some T → P (i + 1) = bStep (P i) i T := fun i T h => by
     have hlt := (List.getElem?_eq_some_iff.1 h).1
     rw [hP]
     show bFrom _ _ (l.take (i + 1)) = bStep (bFrom _ _ (l.take i)) i T
     rw [List.take_add_one, h]
     show bFrom _ _ (l.take i ++ [T]) = _
     rw [bFrom_snoc, List.length_take, Nat.zero_add, Nat.min_eq_left (by omega)]
    have Pok : ∀ i, i ≤ l.length → (P i).BOk ∧ (P i).n = ((l.map Tr.places).take i).sum := fun i hi => by
     rw [hP]
     have e : allPlaces (l.take i) = ((l.map Tr.places).take i).sum := by unfold allPlaces; rw [List.map_take]
     have hle := sum_take_le (l.map Tr.places) i
     have hle : ((l.map Tr.places).take i).sum ≤ allPlaces l := hle
     have hz : Mk.zero.n = 0 := rfl
     obtain ⟨a, b⟩ := bFrom_ok (l.take i) Mk.zero 0 zero_ok (fun T hT => (hok T (List.mem_of_mem_take hT)).1) (by rw [List.length_take]; omega) (by rw [e, hz]; omega)
     exact ⟨a, by rw [b, e, hz]; omega⟩
    rw [← PL]
    (refine hkG ?_)
    (refine hkD ?_)
    refine ⟨[.cell 1 0 4, .cell 1 1 1, .cell 1 3 1, .cell 1 4 1], Nat, fun i => ⟨[(2, .ptr 0 6 0 0), (7, .ptr 1 6 0 0), (43, .p (.isl 8 (Tr.rowsL l) cap)), (44, .p (i64 l.length)), (45, .p (i64 i))], nil6 0 :: (P i).H1⟩,
     fun i => i ≤ l.length, fun i => l.length - i, ⟨0, Nat.zero_le _, ?_⟩, fun i hi' => ?_⟩
    ·show StLe _ _ ⟨_, nil6 0 :: (P 0).H1⟩
     rw [P0]
     refine ⟨⟨rfl, rfl⟩, ?_, ?_⟩
     ·(((repeat'(first|exact TLe.nil|exact HLe.nil _|refine TLe.cons ?_ ?_|refine HLe.cons ?_ ?_|exact KLe.ptr rfl|exact KLe.sl rfl (.inl rfl)|exact KLe.csl rfl|exact KLe.mpr rfl|refine KLe.pe ?_|refine KLe.tup ?_|refine KLe.agg ?_|refine BLe.pe ?_|refine BLe.mpe ?_|refine BLe.ghe ?_|refine BLe.axe ?_ ?_|refine BLe.mx ?_|exact KLeL.nil|refine KLe.fn ?_ ?_|refine KLeL.cons ?_ ?_|exact KLe.und _|exact BLe.dead _))<;>(try with_reducible rfl)))
      all_goals first | rfl | exact congrArg (fun n : Nat => i64 n) hil
     ·refine .cons ?_ (.cons (BLe.mx (KLeL.cons (KLe.sl rfl (.inl rfl)) (KLeL.cons (KLe.sl rfl (.inl rfl)) (KLeL.cons (KLe.p (PLe.nil (.inl rfl))) (KLeL.cons (KLe.sl rfl (.inl rfl)) (KLeL.cons (KLe.sl rfl (.inl rfl)) (KLeL.cons (KLe.pe rfl) KLeL.nil)))))))
       (.cons (BLe.pe rfl) (.cons (BLe.pe rfl) (.cons (BLe.pe rfl) (.cons (BLe.pe rfl) (.nil _))))))
      (((repeat'(first|exact TLe.nil|exact HLe.nil _|refine TLe.cons ?_ ?_|refine HLe.cons ?_ ?_|exact KLe.ptr rfl|exact KLe.sl rfl (.inl rfl)|exact KLe.csl rfl|exact KLe.mpr rfl|refine KLe.pe ?_|refine KLe.tup ?_|refine KLe.agg ?_|refine BLe.pe ?_|refine BLe.mpe ?_|refine BLe.ghe ?_|refine BLe.axe ?_ ?_|refine BLe.mx ?_|exact KLeL.nil|refine KLe.fn ?_ ?_|refine KLeL.cons ?_ ?_|exact KLe.und _|exact BLe.dead _))<;>(try with_reducible rfl)))
    ·have hi' : i ≤ l.length := hi'
     obtain ⟨a, b⟩ := Pok i hi'
     by_cases hie : i = l.length
     ·have e1 : ((P i).sets.map Set4.cells).length = (P i).n := by simp [Mk.n]
      have e2 : ((P i).rules.map rowI).length = (P i).n := by simp [a.rules]
      have e3 : ((P i).follow.map rowL).length = (P i).n := by simp [a.follow]
      have e4 : ((P i).ends.map rowT).length = (P i).n := by simp [a.ends]
      rw [← hie]
      (refine hkG ?_)
      (refine hkD ?_)
      refine ⟨_, [], ⟨rfl, rfl⟩, ⟨rfl, rfl⟩, ?_, HLe.nil _⟩
      exact KLe.tup (KLeL.cons (KLe.aggp (KLeL.cons (KLe.fsl (rs := (P i).sets.map Set4.cells) rfl rfl (take_all (Nat.le_of_eq e1)) e1 (.refl _))
       (KLeL.cons (KLe.fsl (rs := (P i).rules.map rowI) rfl rfl (take_all (Nat.le_of_eq e2)) e2 (.refl _)) (KLeL.cons (KLe.pe rfl)
       (KLeL.cons (KLe.fsl (rs := (P i).follow.map rowL) rfl rfl (take_all (Nat.le_of_eq e3)) e3 (.refl _)) (KLeL.cons (KLe.fsl (rs := (P i).ends.map rowT) rfl rfl (take_all (Nat.le_of_eq e4)) e4 (.refl _))
       (KLeL.cons (KLe.pe rfl) KLeL.nil))))))) (KLeL.cons (KLe.pe rfl) KLeL.nil))
     ·have hlt : i < l.length := by omega
      obtain ⟨t, ht⟩ : ∃ t, l[i]? = some t := ⟨_, List.getElem?_eq_getElem hlt⟩
      have hg := Tr.rows_get ht
      have hst := sum_take (map_get Tr.places ht)
      have hle : ((l.map Tr.places).take (i + 1)).sum ≤ allPlaces l := sum_take_le (l.map Tr.places) (i + 1)
      have htr := tree_fn (i : Int) t (hT t (mem_get ht)) (hok t (mem_get ht)).1 (hok t (mem_get ht)).2 (P i) a.toOk (by omega)
      obtain ⟨c1, c2, c3⟩ := tree_good (i : Int) t (hok t (mem_get ht)).1 (P i) a.toOk (by omega)
      obtain ⟨d1, d2, d3⟩ := tree_keep (i : Int) t (hok t (mem_get ht)).1 (P i)
      have hPS := PS i t ht
      unfold bStep at hPS
      have h8 := t.take8
      clear hmay hok hT hn Pok PL PS P0 hP
      generalize t.build (i : Int) (P i) = q at *
      have f1 := (d1 ▸ a.first).len
      have f2 := c3.1.len
      have f3 := c3.2.len
      have hun := union_fn q.1.first q.2.first none none (by omega) (by omega)
      obtain ⟨tk, ts, tsub, tlo, thi⟩ := t
      (refine hkG ?_)
      (refine hkD ?_)
      refine ⟨_, hg, ?_⟩
      (refine hkG ?_)
      refine vcall_mv [1, 2, 3, 4, 5] htr rfl rfl (KLeL.cons (KLe.ptr rfl) (KLeL.cons (KLe.pe rfl) (KLeL.cons (KLe.pe rfl) KLeL.nil))) ?_
      rintro r H ⟨rfl, rfl⟩
      (refine hkG ?_)
      refine vcall_pf hun rfl rfl ?_
      (refine hkG ?_)
      obtain ⟨E, E0, EL, ES⟩ := fold_seq mark q.1.ends q.2.last
      have El : ∀ j, j ≤ q.2.last.length → (E j).length = q.1.n := by
       intro j
       induction j with
       | zero => intro _; rw [E0]; exact c1.ends
       | succ j ih => intro h; rw [ES j _ (List.getElem?_eq_getElem (by omega)), mark_len]; exact ih (by omega)
      have hll := ints_len q.2.last
      refine ⟨[], Nat, fun j => ⟨[(2, .ptr 0 6 0 0), (7, .ptr 1 6 0 0), (8, .p (i64 i)), (10, .ptr 7 3 0 0), (43, .p (.isl 8 (Tr.rowsL l) cap)), (44, .p (i64 l.length)), (45, .p (i64 i)),
       (69, .p (isl1 q.2.last)), (70, .p (i64 q.2.last.length)), (71, .p (i64 j))], nil6 0 :: (({ q.1 with first := unionI q.1.first q.2.first, ends := E j } : Mk).H1 ++ [.dead, .mx q.2.cells])⟩,
       fun j => j ≤ q.2.last.length, fun j => q.2.last.length - j, ⟨0, Nat.zero_le _, ?_⟩, fun j hj' => ?_⟩
      ·show StLe _ _ ⟨_, nil6 0 :: (({ q.1 with first := unionI q.1.first q.2.first, ends := E 0 } : Mk).H1 ++ [.dead, .mx q.2.cells])⟩
       rw [E0]
       (exact hkL)
      ·have hj' : j ≤ q.2.last.length := hj'
       have hEl := El j hj'
       by_cases hje : j = q.2.last.length
       ·have hEE : E j = q.2.last.foldl mark q.1.ends := by rw [hje, EL]
        clear El hun
        (refine hkG ?_)
        (refine hkD ?_)
        refine bk_split (fun hbe => ?_) (fun hbe => ?_)
        ·by_cases hem : q.1.emp < 0
         ·have he : (if q.2.empty = true ∧ q.1.emp < 0 then (i : Int) else q.1.emp) = (i : Int) := if_pos ⟨hbe, hem⟩
          (refine hkG ?_)
          (refine hkD ?_)
          refine ⟨i + 1, hlt, (show l.length - (i + 1) < l.length - i by omega), ?_⟩
          show StLe _ _ ⟨_, nil6 0 :: (P (i + 1)).H1⟩
          rw [hPS, ← hEE, he]
          (exact hkL)
         ·have he : (if q.2.empty = true ∧ q.1.emp < 0 then (i : Int) else q.1.emp) = q.1.emp := if_neg fun h => hem h.2
          (refine hkG ?_)
          (refine hkD ?_)
          refine ⟨i + 1, hlt, (show l.length - (i + 1) < l.length - i by omega), ?_⟩
          show StLe _ _ ⟨_, nil6 0 :: (P (i + 1)).H1⟩
          rw [hPS, ← hEE, he]
          (exact hkL)
        ·have he : (if q.2.empty = true ∧ q.1.emp < 0 then (i : Int) else q.1.emp) = q.1.emp := if_neg fun h => by rw [hbe] at h; cases h.1
         (refine hkG ?_)
         (refine hkD ?_)
         refine ⟨i + 1, hlt, (show l.length - (i + 1) < l.length - i by omega), ?_⟩
         show StLe _ _ ⟨_, nil6 0 :: (P (i + 1)).H1⟩
         rw [hPS, ← hEE, he]
         (exact hkL)
       ·have hjlt : j < q.2.last.length := by omega
        obtain ⟨p, hp⟩ : ∃ p, q.2.last[j]? = some p := ⟨_, List.getElem?_eq_getElem hjlt⟩
        have hgp := ints_get hp
        have hES := ES j p hp
        have hpb := c3.2.2 p (mem_get hp)
        obtain ⟨eb, heb⟩ : ∃ eb, (E j)[p.toNat]? = some eb := ⟨_, List.getElem?_eq_getElem (by omega)⟩
        have hge : ((E j).map rowT)[0 + p.toNat]? = some (rowT eb) := by rw [Nat.zero_add]; exact map_get rowT heb
        unfold mark at hES
        (refine hkG ?_)
        (refine hkD ?_)
        refine ex_get hgp ?_
        (refine hkG ?_)
        refine And.intro ⟨hpb.1, hpb.2⟩ ?_
        (refine hkG ?_)
        refine ex_get hge ?_
        (refine hkG ?_)
        refine ⟨j + 1, hjlt, (show q.2.last.length - (j + 1) < q.2.last.length - j by omega), ?_⟩
        show StLe _ _ ⟨_, nil6 0 :: (({ q.1 with first := unionI q.1.first q.2.first, ends := E (j + 1) } : Mk).H1 ++ [.dead, .mx q.2.cells])⟩
        rw [hES]
        ((refine ⟨⟨rfl,rfl⟩,?_,?_⟩<;>((repeat'(first|exact TLe.nil|exact HLe.nil _|refine TLe.cons ?_ ?_|refine HLe.cons ?_ ?_|exact KLe.ptr rfl|exact KLe.sl rfl (.inl rfl)|exact KLe.csl rfl|exact KLe.mpr rfl|refine KLe.pe ?_|refine KLe.tup ?_|refine KLe.agg ?_|refine BLe.pe ?_|refine BLe.mpe ?_|refine BLe.ghe ?_|refine BLe.axe ?_ ?_|refine BLe.mx ?_|exact KLeL.nil|refine KLe.fn ?_ ?_|refine KLeL.cons ?_ ?_|exact KLe.und _|exact BLe.dead _))<;>(try with_reducible rfl)))<;>(first|rfl|((refine congrArg (PV.int IntKind.i64) ?_)<;>(first|rfl|omega|(rw [add64 (by omega) (by omega)];omega)|(rw [sub64 (by omega) (by omega)];omega)))|skip))
        show ((E j).map rowT).set (0 + p.toNat) [.b true] = ((E j).set p.toNat true).map rowT
        rw [Nat.zero_add, List.map_set]
        rfl
  ·have hlt : i < l.length := by omega
   obtain ⟨t, ht⟩ : ∃ t, l[i]? = some t := ⟨_, List.getElem?_eq_getElem hlt⟩
   have hg := Tr.rows_get ht
   have hp := places_fn t (hT t (mem_get ht)) (hok t (mem_get ht)).1
   have hple := places_le t
   have hst := sum_take (map_get Tr.places ht)
   have h8 := t.take8
   generalize t.places = tp at *
   obtain ⟨tk, ts, tsub, tlo, thi⟩ := t
   (refine hkG ?_)
   (refine hkD ?_)
   refine ⟨_, hg, ?_⟩
   (refine hkG ?_)
   refine vcall_pf hp rfl rfl ?_
   (refine hkG ?_)
   refine ⟨i + 1, hlt, (show l.length - (i + 1) < l.length - i by omega), ?_⟩
   (exact hkL)
theorem build_fn (l : List Tr) (cap : Option Nat) (hl : l.length < 2 ^ 40) (hT : ∀ T ∈ l, T.Fit) (hn : ∀ T ∈ l, T.nodes < 2 ^ 61) : BuildC l cap := by
 by_cases hb : l.length < 1 ∨ 40 < l.length ∨ l.any (fun T => !T.may) = true
 ·exact build_bad l cap hl hT hn hb
 ·exact build_good l cap hl hT hn hb
end Hk
namespace Hk
open Go Go.Proofs
set_option maxRecDepth 100000
def rf75 : RFn := ⟨1, 51, [.tmp 2], .seq (.ops [D 1 (.boxx 256 0 259),
D 2 (.mov FF)])
(.seq (.ops [D 6 (.fadr 1 257),
D 7 (.load 6 1 false),
D 8 (.len 7),
D 3 (.alloc false [(.int .i64 0)]),
N (.store 3 8 1)])
(.seq (.seq (.ops [D 9 (.fadr 1 0),
D 10 (.load 9 257 true),
D 11 (.call 144 [10]),
D 12 (.un .not 11),
D 13 (.mov 12),
Z 13 14 (.load 3 1 false),
Z 13 15 (.bin .gtr 14 (I 600)),
D 16 (.pick 13 TT 15),
D 17 (.mov 16),
Z 17 18 (.fadr 1 258),
Z 17 19 (.load 18 1 false),
Z 17 20 (.len 19),
Z 17 21 (.load 3 1 false),
Z 17 22 (.bin .neq 20 21),
D 23 (.pick 17 TT 22)])
(.cond 23 (.seq (.ops [D 2 (.mov FF)])
(.ret)) (.skip)))
(.seq (.seq (.ops [D 24 (.fadr 1 257),
D 25 (.load 24 1 false),
D 26 (.len 25),
D 27 (.mov (I 0))])
(.block 0 (.loop [1, 3, 25, 26, 27, 39, 40, 41, 42, 43, 44, 45] (.seq (.ops [D 28 (.bin .lss 27 26)])
(.seq (.cond 28 (.skip) (.exit 0))
(.seq (.block 1 (.seq (.ops [D 29 (.mov 27),
D 30 (.idxS 25 27 1),
D 31 (.load 30 1 false),
D 4 (.mov 29),
D 5 (.mov 31)])
(.seq (.seq (.ops [D 32 (.mov 5),
D 33 (.len 32),
D 34 (.fadr 1 0),
D 35 (.fadr 34 256),
D 36 (.load 35 1 false),
D 37 (.bin .neq 33 36),
D 38 (.mov 37),
Z 38 39 (.fadr 1 258),
Z 38 40 (.load 39 1 false),
Z 38 41 (.mov 4),
Z 38 42 (.idxS 40 41 1),
Z 38 43 (.load 42 1 false),
Z 38 44 (.call 145 [43, (I (-1)), (I 39)]),
Z 38 45 (.un .not 44),
D 46 (.pick 38 TT 45)])
(.cond 46 (.seq (.ops [D 2 (.mov FF)])
(.ret)) (.skip)))
(.seq (.ops [D 47 (.mov 5),
D 48 (.mkfn 147 [] [3]),
D 49 (.call 146 [47, 48])])
(.cond 49 (.seq (.ops [D 2 (.mov FF)])
(.ret)) (.skip))))))
(.ops [D 50 (.bin .add 27 (I 1)),
D 27 (.mov 50)])))))))
(.seq (.ops [D 2 (.mov TT)])
(.ret)))))⟩
theorem rf75_eq : cfnAt Tryz.prog 75 [[1, 3, 25, 26, 27, 39, 40, 41, 42, 43, 44, 45]] = some rf75 := by kernel_rfl
def rf147 : RFn := ⟨1, 9, [.tmp 3], .seq (.ops [D 3 (.mov FF)])
(.seq (.ops [D 4 (.mov 0),
D 5 (.load 1 1 false),
D 6 (.bin .sub 5 (I 1)),
D 7 (.call 145 [4, (I (-1)), 6]),
D 8 (.un .not 7),
D 3 (.mov 8)])
(.ret))⟩
theorem rf147_eq : cfnAt Tryz.prog 147 [] = some rf147 := by kernel_rfl
def rf145 : RFn := ⟨3, 15, [.tmp 6], .seq (.ops [D 6 (.mov FF)])
(.seq (.ops [D 7 (.mov 0),
D 8 (.mov 1),
D 9 (.bin .geq 7 8),
D 10 (.mov 9),
Y 10 11 (.mov 0),
Y 10 12 (.mov 2),
Y 10 13 (.bin .leq 11 12),
D 14 (.pick 10 13 FF),
D 6 (.mov 14)])
(.ret))⟩
theorem rf145_eq : cfnAt Tryz.prog 145 [] = some rf145 := by kernel_rfl
def rf122 : RFn := ⟨1, 23, [.tmp 2], .seq (.ops [D 2 (.mov (.c (.str [])))])
(.seq (.ops [D 3 (.mov (.c (.isl 0 [] (some 0))))])
(.seq (.seq (.ops [D 6 (.mov 0),
D 7 (.len 6),
D 8 (.mov (I 0))])
(.block 0 (.loop [3, 6, 7, 8] (.seq (.ops [D 9 (.bin .lss 8 7)])
(.seq (.cond 9 (.skip) (.exit 0))
(.seq (.block 1 (.seq (.ops [D 10 (.idxS 6 8 1),
D 11 (.load 10 1 false),
D 5 (.mov 11)])
(.ops [D 12 (.mov 3),
D 13 (.mov 5),
D 14 (.bin .shr 13 (.c (.int .u64 8))),
D 15 (.convI .u8 14),
D 16 (.mov 5),
D 17 (.convI .u8 16),
D 18 (.bslice 1 [15, 17]),
D 19 (.app 12 18 1 1),
D 3 (.mov 19)])))
(.ops [D 20 (.bin .add 8 (I 1)),
D 8 (.mov 20)])))))))
(.seq (.ops [D 21 (.mov 3),
D 22 (.strOf 21),
D 2 (.mov 22)])
(.ret))))⟩
theorem rf122_eq : cfnAt Tryz.prog 122 [[3, 6, 7, 8]] = some rf122 := by kernel_rfl
def rf151 : RFn := ⟨1, 7, [.tmp 2], .seq (.ops [D 1 (.boxx 256 0 259),
D 2 (.mov (I 0))])
(.seq (.seq (.ops [D 3 (.fadr 1 257),
D 4 (.load 3 1 false),
D 5 (.len 4),
D 6 (.bin .eql 5 (I 0))])
(.cond 6 (.seq (.ops [D 2 (.mov (I (-1)))])
(.ret)) (.skip)))
(.seq (.ops [D 2 (.mov (I 0))])
(.ret)))⟩
theorem rf151_eq : cfnAt Tryz.prog 151 [] = some rf151 := by kernel_rfl
def rf79 : RFn := ⟨3, 21, [.tmp 6], .seq (.ops [D 3 (.boxx 256 0 259),
D 6 (.mov (I 0))])
(.seq (.seq (.ops [D 7 (.mov 1),
D 8 (.bin .lss 7 (I 0))])
(.cond 8 (.seq (.ops [D 6 (.mov (I (-1)))])
(.ret)) (.skip)))
(.seq (.draw (.take (D 9 (.fadr 3 257))<|
.take (D 10 (.load 9 1 false))<|
.take (D 11 (.mov 1))<|
.take (D 12 (.idxS 10 11 1))<|
.take (D 13 (.load 12 1 false))<|
.take (D 14 (.mov 2))<|
.take (D 15 (.fadr 3 0))<|
.take (D 16 (.fadr 15 0))<|
.take (D 17 (.idxA 16 14 256 1))<|
.take (D 18 (.load 17 1 false))<|
.take (D 19 (.idxS 13 18 1))<|
.take (D 20 (.load 19 1 false))<|
.take (D 6 (.mov 20))<|
.done))
(.ret)))⟩
theorem rf79_eq : cfnAt Tryz.prog 79 [] = some rf79 := by kernel_rfl
def rf77 : RFn := ⟨2, 12, [.tmp 4], .seq (.ops [D 2 (.boxx 256 0 259),
D 4 (.mov (I 0))])
(.seq (.seq (.ops [D 5 (.mov 1),
D 6 (.bin .lss 5 (I 0))])
(.cond 6 (.seq (.ops [D 4 (.mov (I (-1)))])
(.ret)) (.skip)))
(.seq (.ops [D 7 (.fadr 2 258),
D 8 (.load 7 1 false),
D 9 (.mov 1),
D 10 (.idxS 8 9 1),
D 11 (.load 10 1 false),
D 4 (.mov 11)])
(.ret)))⟩
theorem rf77_eq : cfnAt Tryz.prog 77 [] = some rf77 := by kernel_rfl
end Hk
namespace Hk
open Go Go.Proofs
set_option linter.unusedVariables false
set_option linter.unusedSimpArgs false
set_option maxRecDepth 100000
structure Dfa where
 o : Nat → Nat
 cls : Int
 next : List (List Int)
 tag : List Int
def Dfa.rest (d : Dfa) : List PV := [i64 d.cls, .isl 1 (d.next.map rowLs) none, .isl 1 (ints d.tag) none]
def Dfa.pv (d : Dfa) : PV := .agg (clsArr d.o ++ d.rest)
structure Dfa.Fit (d : Dfa) : Prop where
 o : ∀ b, b < 256 → d.o b < 256
 next : d.next.length < 2 ^ 40
 row : ∀ r ∈ d.next, r.length < 2 ^ 40
 tag : d.tag.length < 2 ^ 40
theorem within_fn (n lo hi : Int) : PF Tryz.prog 145 [i64 n, i64 lo, i64 hi] (.b (decide (lo ≤ n ∧ n ≤ hi))) := by
 refine pf_intro rf145_eq rmixed rfl ?_
 by_cases h1 : lo ≤ n <;> by_cases h2 : n ≤ hi
 all_goals
  (refine hkG ?_)
  (refine hkD ?_)
  exact ret_pf rfl rfl (congrArg PV.b (by simp [h1, h2, intCm]))
theorem dmay1_fn (k : Nat) (hk : k < 2 ^ 40) (x : Int) : PF Tryz.prog 147 [i64 x, .irow [i64 k] 0] (.b (!decide (-1 ≤ x ∧ x ≤ (k : Int) - 1))) := by
 have e : intAr .sub .i64 (k : Int) 1 = (k : Int) - 1 := sub64 (by omega) (by omega)
 have hw := within_fn x (-1) (intAr .sub .i64 (k : Int) 1)
 refine pf_intro rf147_eq rmixed rfl ?_
 (refine hkG ?_)
 refine vcall_pf hw rfl rfl ?_
 (refine hkG ?_)
 exact ret_pf rfl rfl (congrArg PV.b (by rw [e]))
def Dfa.rowOk (d : Dfa) (i : Nat) : Bool :=
 decide (((d.next.getD i []).length : Int) = d.cls) && (decide (-1 ≤ d.tag.getD i 0 ∧ d.tag.getD i 0 ≤ 39) && !(d.next.getD i []).any fun x => !decide (-1 ≤ x ∧ x ≤ (d.next.length : Int) - 1))
def Dfa.may (d : Dfa) : Bool := clsMay d.o d.cls && (decide (d.next.length ≤ 600) && (decide (d.tag.length = d.next.length) && (List.range d.next.length).all d.rowOk))
set_option maxHeartbeats 4000000 in
theorem dmay_fn (d : Dfa) (hd : d.Fit) : PF Tryz.prog 75 [d.pv] (.b d.may) := by
 have hn := hd.next
 have ht := hd.tag
 have hl1 : (d.next.map rowLs).length = d.next.length := by simp
 have hl2 := ints_len d.tag
 unfold Dfa.may
 have hmc := clsMay_fn d.o hd.o d.cls
 have start : ∀ {K : Prop}, K → K := fun h => h
 cases hc : clsMay d.o d.cls with
 | false =>
   rw [hc] at hmc
   refine pf_intro rf75_eq rmixed rfl ?_
   (refine hkG ?_)
   refine ⟨_, d.rest.map .p, ax_whole (rest := d.rest), ⟨rfl, clsArr_len _, rfl⟩, ?_⟩
   (refine hkG ?_)
   refine vcall_pf hmc rfl rfl ?_
   (refine hkG ?_)
   (refine hkC ?_)
   exact ret_pf rfl rfl rfl
 | true =>
   rw [hc] at hmc
   by_cases h6 : d.next.length ≤ 600
   ·by_cases h7 : d.tag.length = d.next.length
    ·rw [decide_eq_true h6, decide_eq_true h7]
     refine pf_intro rf75_eq rmixed rfl ?_
     (refine hkG ?_)
     refine ⟨_, d.rest.map .p, ax_whole (rest := d.rest), ⟨rfl, clsArr_len _, rfl⟩, ?_⟩
     (refine hkG ?_)
     refine vcall_pf hmc rfl rfl ?_
     (refine hkG ?_)
     (refine hkD ?_)
     refine ⟨[], Nat, fun i => ⟨[(1, .ptr 0 259 0 0), (3, .ptr 1 1 0 0), (25, .p (.isl 1 (d.next.map rowLs) none)), (26, .p (i64 d.next.length)), (27, .p (i64 i))],
      [.ax 256 (clsArr d.o) (d.rest.map .p), .mx [.p (i64 d.next.length)]]⟩, fun i => i ≤ d.next.length ∧ ∀ j, j < i → d.rowOk j = true, fun i => d.next.length - i, ⟨0, ⟨Nat.zero_le _, fun j h => by omega⟩, ?_⟩, fun i hi => ?_⟩
     ·(exact hkL)
      all_goals exact congrArg (fun n : Nat => i64 n) hl1
     ·obtain ⟨hi, hall⟩ := hi
      by_cases hie : i = d.next.length
      ·have : (List.range d.next.length).all d.rowOk = true := by
        rw [List.all_eq_true]; intro j hj; exact hall j (by rw [hie]; simpa using hj)
       rw [this]
       subst hie
       (refine hkG ?_)
       (refine hkD ?_)
       exact ret_pf rfl rfl rfl
      ·have hlt : i < d.next.length := by omega
       obtain ⟨r, hr⟩ : ∃ r, d.next[i]? = some r := ⟨_, List.getElem?_eq_getElem hlt⟩
       obtain ⟨t, htt⟩ : ∃ t, d.tag[i]? = some t := ⟨_, List.getElem?_eq_getElem (by omega)⟩
       have hgr : (d.next.map rowLs)[i]? = some [.isl 1 (ints r) none] := by rw [List.getElem?_map, hr]; rfl
       have hgt := ints_get htt
       have hrl := hd.row r (mem_get hr)
       have hil := ints_len r
       have hbad : d.rowOk i = false → (List.range d.next.length).all d.rowOk = false := fun h => by
        cases hq : (List.range d.next.length).all d.rowOk with
        | false => rfl
        | true =>
          have := List.all_eq_true.1 hq i (by simpa using hlt)
          rw [h] at this; cases this
       have hgood : d.rowOk i = true → ∀ j, j < i + 1 → d.rowOk j = true := fun h j hj => by
        by_cases e : j = i
        ·subst e; exact h
        ·exact hall j (by omega)
       have hro : d.rowOk i = (decide ((r.length : Int) = d.cls) && (decide (-1 ≤ t ∧ t ≤ 39) && !r.any fun x => !decide (-1 ≤ x ∧ x ≤ (d.next.length : Int) - 1))) := by
        unfold Dfa.rowOk
        rw [List.getD_eq_getElem?_getD, List.getD_eq_getElem?_getD, hr, htt]; rfl
       rw [hro] at hbad hgood
       have hw := within_fn t (-1) 39
       have hcf := contains_fn r none _ [.irow [i64 d.next.length] 0] (fun x => !decide (-1 ≤ x ∧ x ≤ (d.next.length : Int) - 1)) (by omega) (fun z _ => dmay1_fn d.next.length hn z)
       (refine hkG ?_)
       (refine hkD ?_)
       refine ⟨_, hgr, ?_⟩
       (refine hkG ?_)
       by_cases hcl : (r.length : Int) = d.cls
       ·rw [decide_eq_true hcl] at hbad hgood
        (refine hkD ?_)
        refine ⟨_, hgt, ?_⟩
        (refine hkG ?_)
        refine vcall_pf hw rfl rfl ?_
        (refine hkG ?_)
        refine bk_split (fun hb => ?_) (fun hb => ?_)
        ·have hb : decide (-1 ≤ t ∧ t ≤ 39) = false := by cases hq : decide (-1 ≤ t ∧ t ≤ 39) with | false => rfl | true => rw [hq] at hb; cases hb
         rw [hb] at hbad
         rw [hbad rfl]
         (refine hkG ?_)
         exact ret_pf rfl rfl rfl
        ·have hb : decide (-1 ≤ t ∧ t ≤ 39) = true := by cases hq : decide (-1 ≤ t ∧ t ≤ 39) with | true => rfl | false => rw [hq] at hb; cases hb
         rw [hb] at hbad hgood
         (refine hkG ?_)
         refine vcall_flat hcf rfl (KLeL.cons (KLe.pe rfl) (KLeL.cons (KLe.fnp KLeL.nil (KLeL.cons (KLe.fmx (row := [i64 d.next.length]) rfl rfl) KLeL.nil)) KLeL.nil)) ?_
         (refine hkG ?_)
         refine bk_split (fun hc => ?_) (fun hc => ?_)
         ·rw [hc] at hbad
          rw [hbad rfl]
          (refine hkG ?_)
          exact ret_pf rfl rfl rfl
         ·rw [hc] at hgood
          (refine hkG ?_)
          refine ⟨i + 1, ⟨hlt, hgood rfl⟩, by show d.next.length - (i + 1) < d.next.length - i; omega, ?_⟩
          (exact hkL)
       ·rw [decide_eq_false hcl] at hbad
        rw [hbad rfl]
        (refine hkD ?_)
        exact ret_pf rfl rfl rfl
    ·rw [decide_eq_true h6, decide_eq_false h7]
     refine pf_intro rf75_eq rmixed rfl ?_
     (refine hkG ?_)
     refine ⟨_, d.rest.map .p, ax_whole (rest := d.rest), ⟨rfl, clsArr_len _, rfl⟩, ?_⟩
     (refine hkG ?_)
     refine vcall_pf hmc rfl rfl ?_
     (refine hkG ?_)
     (refine hkD ?_)
     exact ret_pf rfl rfl rfl
   ·rw [decide_eq_false h6]
    refine pf_intro rf75_eq rmixed rfl ?_
    (refine hkG ?_)
    refine ⟨_, d.rest.map .p, ax_whole (rest := d.rest), ⟨rfl, clsArr_len _, rfl⟩, ?_⟩
    (refine hkG ?_)
    refine vcall_pf hmc rfl rfl ?_
    (refine hkG ?_)
    (refine hkD ?_)
    exact ret_pf rfl rfl rfl
theorem pfirst_fn (d : Dfa) (hd : d.Fit) : PF Tryz.prog 151 [d.pv] (i64 (if d.next.length = 0 then -1 else 0)) := by
 have hn := hd.next
 have hl1 : (d.next.map rowLs).length = d.next.length := by simp
 refine pf_intro rf151_eq rmixed rfl ?_
 by_cases h : d.next.length = 0
 ·rw [if_pos h]
  (refine hkG ?_)
  refine ⟨_, d.rest.map .p, ax_whole (rest := d.rest), ⟨rfl, clsArr_len _, rfl⟩, ?_⟩
  (refine hkG ?_)
  (refine hkD ?_)
  exact ret_pf rfl rfl rfl
 ·rw [if_neg h]
  (refine hkG ?_)
  refine ⟨_, d.rest.map .p, ax_whole (rest := d.rest), ⟨rfl, clsArr_len _, rfl⟩, ?_⟩
  (refine hkG ?_)
  (refine hkD ?_)
  exact ret_pf rfl rfl rfl
def Dfa.step (d : Dfa) (s : Int) (b : Nat) : Int := if s < 0 then -1 else (d.next.getD s.toNat []).getD (d.o b) 0
def Dfa.tagOf (d : Dfa) (s : Int) : Int := if s < 0 then -1 else d.tag.getD s.toNat 0
theorem pstep_fn (d : Dfa) (hd : d.Fit) (s : Int) (b : Nat) (hb : b < 256) (hs : s < d.next.length) (hr : ∀ r ∈ d.next, d.o b < r.length) : PF Tryz.prog 79 [d.pv, i64 s, .int .u8 b] (i64 (d.step s b)) := by
 have hn := hd.next
 have hl1 : (d.next.map rowLs).length = d.next.length := by simp
 have hob := hd.o b hb
 unfold Dfa.step
 refine pf_intro rf79_eq rmixed rfl ?_
 by_cases h : s < 0
 ·rw [if_pos h]
  (refine hkG ?_)
  refine ⟨_, d.rest.map .p, ax_whole (rest := d.rest), ⟨rfl, clsArr_len _, rfl⟩, ?_⟩
  (refine hkG ?_)
  (refine hkD ?_)
  exact ret_pf rfl rfl rfl
 ·rw [if_neg h]
  obtain ⟨r, hrr⟩ : ∃ r, d.next[s.toNat]? = some r := ⟨_, List.getElem?_eq_getElem (by omega)⟩
  have hrl := hr r (mem_get hrr)
  obtain ⟨x, hx⟩ : ∃ x, r[d.o b]? = some x := ⟨_, List.getElem?_eq_getElem hrl⟩
  have hgr : (d.next.map rowLs)[s.toNat]? = some [.isl 1 (ints r) none] := by rw [List.getElem?_map, hrr]; rfl
  have hgx := ints_get hx
  have hil := ints_len r
  have hg : (clsArr d.o)[0 + 0 + 0 + (b : Int).toNat * 1]? = some (.int .u8 (d.o b : Nat)) := by
   rw [show 0 + 0 + 0 + (b : Int).toNat * 1 = b by omega, clsArr_get d.o hb]
  rw [List.getD_eq_getElem?_getD, List.getD_eq_getElem?_getD, hrr, Option.getD_some, hx, Option.getD_some]
  (refine hkG ?_)
  refine ⟨_, d.rest.map .p, ax_whole (rest := d.rest), ⟨rfl, clsArr_len _, rfl⟩, ?_⟩
  (refine hkG ?_)
  (refine hkD ?_)
  refine ⟨_, hgr, ?_⟩
  (refine hkG ?_)
  refine ⟨_, hg, ?_⟩
  (refine hkG ?_)
  refine ⟨_, hgx, ?_⟩
  (refine hkG ?_)
  exact ret_pf rfl rfl rfl
theorem ptag_fn (d : Dfa) (hd : d.Fit) (s : Int) (hs : s < d.tag.length) : PF Tryz.prog 77 [d.pv, i64 s] (i64 (d.tagOf s)) := by
 have hl2 := ints_len d.tag
 have ht := hd.tag
 unfold Dfa.tagOf
 refine pf_intro rf77_eq rmixed rfl ?_
 by_cases h : s < 0
 ·rw [if_pos h]
  (refine hkG ?_)
  refine ⟨_, d.rest.map .p, ax_whole (rest := d.rest), ⟨rfl, clsArr_len _, rfl⟩, ?_⟩
  (refine hkG ?_)
  (refine hkD ?_)
  exact ret_pf rfl rfl rfl
 ·rw [if_neg h]
  obtain ⟨t, htt⟩ : ∃ t, d.tag[s.toNat]? = some t := ⟨_, List.getElem?_eq_getElem (by omega)⟩
  have hgt := ints_get htt
  rw [List.getD_eq_getElem?_getD, htt, Option.getD_some]
  (refine hkG ?_)
  refine ⟨_, d.rest.map .p, ax_whole (rest := d.rest), ⟨rfl, clsArr_len _, rfl⟩, ?_⟩
  (refine hkG ?_)
  (refine hkD ?_)
  refine ⟨_, hgt, ?_⟩
  (refine hkG ?_)
  exact ret_pf rfl rfl rfl
end Hk
namespace Hk
open Go Go.Proofs
set_option linter.unusedVariables false
set_option linter.unusedSimpArgs false
set_option maxRecDepth 100000
def kb (p : Int) : List UInt8 := [UInt8.ofNat (p.toNat / 256), UInt8.ofNat p.toNat]
def keyI (l : List Int) : List UInt8 := (l.map kb).flatten
theorem kb_enc {p : Int} (h : 0 ≤ p ∧ p < 65536) : (kb p).map encByte = [[.int .u8 (IntKind.u8.wrap (intAr .shr .i64 p 8))], [.int .u8 (IntKind.u8.wrap p)]] := by
 have e1 : intAr .shr .i64 p 8 = ((p.toNat / 256 : Nat) : Int) := by
  show Int.fdiv p (2 ^ (min (Int.toNat 8) 64)) = _
  rw [show min (Int.toNat 8) 64 = 8 from rfl, Int.fdiv_eq_ediv_of_nonneg _ (by decide)]
  omega
 have e2 : IntKind.u8.wrap p = ((p.toNat % 256 : Nat) : Int) := by rw [wrap_u8]; omega
 have e3 : IntKind.u8.wrap ((p.toNat / 256 : Nat) : Int) = ((p.toNat / 256 : Nat) : Int) := by rw [wrap_u8]; omega
 rw [e1, e2, e3]
 have f1 : (UInt8.ofNat (p.toNat / 256)).toNat = p.toNat / 256 := by simp; omega
 have f2 : (UInt8.ofNat p.toNat).toNat = p.toNat % 256 := by simp
 simp [kb, encByte, f1, f2]
theorem key_fn (l : List Int) (hl : l.length < 2 ^ 40) (hb : ∀ p ∈ l, 0 ≤ p ∧ p < 65536) : PF Tryz.prog 122 [.isl 1 (ints l) none] (.str (keyI l)) := by
 have hil := ints_len l
 refine pf_intro rf122_eq rmixed rfl ?_
 (refine hkG ?_)
 refine ⟨[.slot 3 1], Nat × Nat × List UInt8, fun x => ⟨[(3, .sl 0 1 0 x.2.1 none), (6, .p (.isl 1 (ints l) none)), (7, .p (i64 l.length)), (8, .p (i64 x.1))], [.pr 1 (x.2.2.map encByte)]⟩,
  fun x => x.1 ≤ l.length ∧ x.2.2 = keyI (l.take x.1) ∧ x.2.1 = x.2.2.length ∧ x.2.1 = 2 * x.1, fun x => l.length - x.1, ⟨(0, 0, []), ⟨Nat.zero_le _, rfl, rfl, rfl⟩, ?_⟩, fun x hx => ?_⟩
 ·(exact hkL)
 ·obtain ⟨i, len, bs⟩ := x
  obtain ⟨hi, hbs, hlen, hle2⟩ := hx
  have hi : i ≤ l.length := hi
  have hbs : bs = keyI (l.take i) := hbs
  have hlen : len = bs.length := hlen
  have hle2 : len = 2 * i := hle2
  have hml : (bs.map encByte).length = bs.length := by simp
  by_cases hie : i = l.length
  ·rw [hie, List.take_length] at hbs
   rw [← hbs]
   (refine hkG ?_)
   (refine hkD ?_)
   refine ⟨bs.map encByte, ?_, ?_, bs, rfl, ?_⟩
   ·show ((bs.map encByte).take len) = _
    rw [hlen, ← hml, List.take_length]
   ·rw [hml, hlen]
   ·(refine hkG ?_)
    exact ret_pf rfl rfl rfl
  ·have hlt : i < l.length := by omega
   obtain ⟨p, hp⟩ : ∃ p, l[i]? = some p := ⟨_, List.getElem?_eq_getElem hlt⟩
   have hg := ints_get hp
   have he := kb_enc (hb p (mem_get hp))
   have hk : keyI (l.take (i + 1)) = keyI (l.take i) ++ kb p := by
    unfold keyI
    rw [List.take_add_one, hp]; simp
   (refine hkG ?_)
   (refine hkD ?_)
   refine ⟨_, hg, ?_⟩
   (refine hkG ?_)
   refine And.intro (by show (len + 2) * 1 ≤ 70368744177664; omega) ?_
   (refine hkG ?_)
   refine ⟨(i + 1, len + 2, bs ++ kb p), ⟨hlt, by rw [hk, ← hbs], by simp [hlen, kb], by show len + 2 = 2 * (i + 1); omega⟩, by show l.length - (i + 1) < l.length - i; omega, ?_⟩
   ((refine ⟨⟨rfl,rfl⟩,?_,?_⟩<;>((repeat'(first|exact TLe.nil|exact HLe.nil _|refine TLe.cons ?_ ?_|refine HLe.cons ?_ ?_|exact KLe.ptr rfl|exact KLe.sl rfl (.inl rfl)|exact KLe.csl rfl|exact KLe.mpr rfl|refine KLe.pe ?_|refine KLe.tup ?_|refine KLe.agg ?_|refine BLe.pe ?_|refine BLe.mpe ?_|refine BLe.ghe ?_|refine BLe.axe ?_ ?_|refine BLe.mx ?_|exact KLeL.nil|refine KLe.fn ?_ ?_|refine KLeL.cons ?_ ?_|exact KLe.und _|exact BLe.dead _))<;>(try with_reducible rfl)))<;>(first|rfl|((refine congrArg (PV.int IntKind.i64) ?_)<;>(first|rfl|omega|(rw [add64 (by omega) (by omega)];omega)|(rw [sub64 (by omega) (by omega)];omega)))|skip))
   show bs.map encByte ++ _ = (bs ++ kb p).map encByte
   rw [List.map_append, he]
   rfl
end Hk
namespace Hk
open Go Go.Proofs
set_option linter.unusedVariables false
set_option linter.unusedSimpArgs false
set_option maxRecDepth 100000
section
variable {κ : Type} [DecidableEq κ]
theorem enter_mem {E : List κ} {k x : κ} : x ∈ enter E k ↔ x ∈ E ∨ x = k := by
 unfold enter
 split
 ·rename_i h
  exact ⟨.inl, fun hx => hx.elim id fun e => e ▸ h⟩
 ·simp
theorem enter_nodup {E : List κ} (h : E.Nodup) (k : κ) : (enter E k).Nodup := by
 unfold enter
 split
 ·exact h
 ·rename_i hn
  refine List.nodup_append.2 ⟨h, by simp, fun a ha b hb => ?_⟩
  simp at hb
  rintro rfl
  exact hn (hb ▸ ha)
theorem uniq_succ (name : Nat → κ) (b : Nat) : uniq name (b + 1) = enter (uniq name b) (name b) := by
 unfold enter
 split
 ·exact uniq_in (by assumption)
 ·exact uniq_new (by assumption)
theorem uniq_from (name : Nat → κ) {x : κ} : ∀ n, x ∈ uniq name n → ∃ b, b < n ∧ name b = x
 | 0, h => by rw [uniq_zero] at h; cases h
 | n + 1, h => by
   rw [uniq_succ, enter_mem] at h
   rcases h with h | rfl
   ·obtain ⟨b, h1, h2⟩ := uniq_from name n h
    exact ⟨b, by omega, h2⟩
   ·exact ⟨n, by omega, rfl⟩
theorem uniq_nodup (name : Nat → κ) : ∀ n, (uniq name n).Nodup
 | 0 => by rw [uniq_zero]; exact .nil
 | n + 1 => by rw [uniq_succ]; exact enter_nodup (uniq_nodup name n) _
theorem ix_get {E : List κ} (h : E.Nodup) {k : Nat} (hk : k < E.length) : ix E E[k] = k := h.idxOf_getElem k hk
theorem ix_app {E r : List κ} {x : κ} (h : x ∈ E) : ix (E ++ r) x = ix E x := by
 unfold ix
 rw [List.idxOf_append, if_pos h]
theorem ix_cons {x k : κ} {r : List κ} : ix (x :: r) k = if k = x then 0 else ix r k + 1 := by
 unfold ix
 rw [List.idxOf_cons]
 by_cases h : k = x
 ·subst h; simp
 ·have : (x == k) = false := by simpa using Ne.symm h
  rw [this, if_neg h]; rfl
theorem get_ix {E : List κ} {x : κ} (h : x ∈ E) : E[ix E x]? = some x := by
 have := ix_lt h
 rw [List.getElem?_eq_getElem this]
 exact congrArg some (List.getElem_idxOf this)
end
theorem ren_onto (name : Nat → Int × Int) {k : Nat} (h : k < renN name) : ∃ b, b < 256 ∧ ren name b = k := by
 unfold renN at h
 obtain ⟨E, hE⟩ : ∃ E, E = uniq name 256 := ⟨_, rfl⟩
 rw [← hE] at h
 have hk : k < E.length := h
 have hm : E[k] ∈ E := List.getElem_mem hk
 obtain ⟨b, h1, h2⟩ := uniq_from name 256 (x := E[k]) (by rw [← hE]; exact hm)
 refine ⟨b, h1, ?_⟩
 unfold ren
 rw [h2, ← hE]
 exact ix_get (by rw [hE]; exact uniq_nodup name 256) hk
theorem or_has (s t : Set4) (b : Nat) : (s.or t).has b = (s.has b || t.has b) := by
 unfold Set4.has Set4.or
 generalize b / 64 = q
 match q with
 | 0 => simp [Set4.word]
 | 1 => simp [Set4.word]
 | 2 => simp [Set4.word]
 | _ + 3 => simp [Set4.word]
theorem memStep_has (o : Nat → Nat) (k : Int) : ∀ (l : List Nat) (s : Set4), (∀ c ∈ l, c < 256) → ∀ b, b < 256 → (l.foldl (memStep o k) s).has b = (s.has b || (decide (b ∈ l) && decide ((o b : Int) = k)))
 | [], s, _, b, hb => by simp
 | c :: l, s, hl, b, hb => by
   rw [List.foldl_cons, memStep_has o k l _ (fun c hc => hl c (by simp [hc])) b hb]
   have hc := hl c (by simp)
   unfold memStep
   by_cases h : (o c : Int) = k
   ·rw [if_pos h, or_has, setOf_has hc hb]
    by_cases e : b = c
    ·subst e; simp [h]
    ·simp [e]
   ·rw [if_neg h]
    by_cases e : b = c
    ·subst e; simp [h]
    ·simp [e]
theorem nil_has (b : Nat) : Set4.nil.has b = false := by
 unfold Set4.has
 generalize b / 64 = q
 match q with
 | 0 => simp [Set4.word, Set4.nil]
 | 1 => simp [Set4.word, Set4.nil]
 | 2 => simp [Set4.word, Set4.nil]
 | _ + 3 => simp [Set4.word, Set4.nil]
theorem membersM_has (o : Nat → Nat) (k : Int) {b : Nat} (hb : b < 256) : (membersM o k).has b = decide ((o b : Int) = k) := by
 unfold membersM
 rw [memStep_has o k _ _ (by simp) b hb, nil_has]
 simp [hb]
theorem range_find {n : Nat} {p : Nat → Bool} {b : Nat} (h : (List.range n).find? p = some b) : b < n ∧ p b = true ∧ ∀ a, a < b → p a = false := by
 have h1 := List.find?_some h
 have h2 := List.mem_of_find?_eq_some h
 rw [List.mem_range] at h2
 refine ⟨h2, h1, fun a ha => ?_⟩
 rw [List.find?_eq_some_iff_append] at h
 obtain ⟨_, xs, ys, he, hall⟩ := h
 have hl : xs = List.range xs.length := by
  have := congrArg (List.take xs.length) he
  rw [List.take_left, List.take_range] at this
  have hle : xs.length ≤ n := by have := congrArg List.length he; simp at this; omega
  rw [← this, Nat.min_eq_left hle]
  simp
 have hb : xs.length = b := by
  have h3 := congrArg (fun l => l[xs.length]?) he
  simp only [List.getElem?_append_right (Nat.le_refl _), Nat.sub_self, List.getElem?_cons_zero] at h3
  obtain ⟨h4, h5⟩ := List.getElem?_eq_some_iff.1 h3
  rw [List.getElem_range] at h5
  exact h5
 have := hall a (by rw [hl, hb]; simpa using ha)
 simpa using this
def lowOf (o : Nat → Nat) (n : Int) (k : Nat) : Nat := ((members o n k).next 0).toNat
theorem low_spec {o : Nat → Nat} {n : Int} (h : clsMay o n = true) {k : Nat} (hk : (k : Int) < n) : (members o n k).next 0 = lowOf o n k ∧ lowOf o n k < 256 ∧ o (lowOf o n k) = k ∧ ∀ a, a < lowOf o n k → o a ≠ k := by
 have hc := h
 unfold clsMay at hc
 simp only [Bool.and_eq_true, List.all_eq_true, List.mem_range, beq_iff_eq] at hc
 obtain ⟨h1, h2⟩ := hc
 obtain ⟨b, hb, hbk⟩ := ren_onto (nameOf o) (k := k) (by omega)
 have hob : o b = k := by rw [h1 b hb, hbk]
 unfold lowOf members
 rw [if_pos h]
 unfold Set4.next Set4.bytes
 have hf : ∀ x : Nat, decide ((0 : Int) ≤ (x : Int)) = true := fun x => by simp
 rw [List.find?_filter]
 have hfe : (fun (a : Nat) => decide ((membersM o k).has a = true ∧ decide ((0 : Int) ≤ (a : Int)) = true)) = fun a => (membersM o k).has a := by funext a; rw [hf]; simp
 rw [hfe]
 cases hq : (List.range 256).find? (fun a => (membersM o k).has a) with
 | none =>
   rw [List.find?_eq_none] at hq
   have := hq b (by simpa using hb)
   rw [membersM_has o k hb, hob] at this
   simp at this
 | some c =>
   obtain ⟨h3, h4, h5⟩ := range_find hq
   rw [membersM_has o k h3] at h4
   have h4 : (o c : Int) = k := by simpa using h4
   refine ⟨rfl, h3, by show o c = k; omega, fun a ha => ?_⟩
   have ha : a < c := ha
   have := h5 a ha
   rw [membersM_has o k (by omega)] at this
   intro e
   rw [e] at this
   simp at this
end Hk
namespace Hk
open Go Go.Proofs
set_option linter.unusedVariables false
set_option linter.unusedSimpArgs false
set_option maxRecDepth 100000
def lows (o : Nat → Nat) (n : Nat) : List Nat := (List.range n).map (lowOf o n)
section
variable (n : Nfa) (bytes : List Nat)
def sNext (T : List (List Int)) (i b : Nat) : List Int := if i = 0 then n.with' n.first b else n.goOn (T.getD (i - 1) []) b
def sEnter (T : List (List Int)) (l : List Int) : List (List Int) := if l = [] then T else enter T l
def sNum (T : List (List Int)) (l : List Int) : Int := if l = [] then -1 else (ix T l : Int) + 1
def sStep (T : List (List Int)) (i : Nat) (U : List (List Int)) (b : Nat) : List (List Int) := sEnter U (sNext n T i b)
def sRound (T : List (List Int)) (i : Nat) : List (List Int) := bytes.foldl (sStep n T i) T
def sRow (T U : List (List Int)) (i : Nat) : List Int := bytes.map fun b => sNum U (sNext n T i b)
def sLoop : Nat → List (List Int) → List (List Int) → Option (List (List Int) × List (List Int))
 | 0, T, rows => some (T, rows)
 | f + 1, T, rows => if rows.length < T.length + 1 then
  (if (sRound n bytes T rows.length).length + 1 > 600 then none else sLoop f (sRound n bytes T rows.length) (rows ++ [sRow n bytes T (sRound n bytes T rows.length) rows.length]))
   else some (T, rows)
theorem sEnter_pre (T : List (List Int)) (l : List Int) : ∃ r, sEnter T l = T ++ r := by
 unfold sEnter enter
 split
 ·exact ⟨[], by simp⟩
 ·split
  ·exact ⟨[], by simp⟩
  ·exact ⟨_, rfl⟩
theorem sSteps_pre (T : List (List Int)) (i : Nat) : ∀ (l : List Nat) (U : List (List Int)), ∃ r, l.foldl (sStep n T i) U = U ++ r
 | [], U => ⟨[], by simp⟩
 | b :: l, U => by
   obtain ⟨r, hr⟩ := sEnter_pre U (sNext n T i b)
   obtain ⟨s, hs⟩ := sSteps_pre T i l (U ++ r)
   refine ⟨r ++ s, ?_⟩
   rw [List.foldl_cons]
   show l.foldl (sStep n T i) (sEnter U _) = _
   rw [hr, hs, List.append_assoc]
theorem sNum_pre {T r : List (List Int)} {l : List Int} (h : l = [] ∨ l ∈ T) : sNum (T ++ r) l = sNum T l := by
 unfold sNum
 split
 ·rfl
 ·rename_i hn
  have hm := h.resolve_left hn
  rw [ix_app hm]
def TOk (T : List (List Int)) : Prop := ∀ l ∈ T, Asc n.sets.length l ∧ l ≠ []
theorem with_asc {l : List Int} (h : Asc n.sets.length l) (b : Nat) : Asc n.sets.length (n.with' l b) :=
 ⟨h.1.filter _, fun p hp => h.2 p (List.mem_filter.1 hp).1⟩
theorem goOn_asc (l : List Int) (b : Nat) : Asc n.sets.length (n.goOn l b) := with_asc n (listTo_asc _ _ (by rw [nmarks_len]; exact Nat.le_refl _)) b
theorem sNext_asc (hn : Asc n.sets.length n.first) (T : List (List Int)) (i b : Nat) : Asc n.sets.length (sNext n T i b) := by
 unfold sNext
 split
 ·exact with_asc n hn b
 ·exact goOn_asc n _ b
theorem TOk.enter {T : List (List Int)} (h : TOk n T) {l : List Int} (hl : Asc n.sets.length l) : TOk n (sEnter T l) := by
 unfold sEnter
 split
 ·exact h
 ·rename_i hne
  intro x hx
  rcases enter_mem.1 hx with hx | rfl
  ·exact h x hx
  ·exact ⟨hl, hne⟩
end
end Hk
namespace Hk
open Go Go.Proofs
set_option linter.unusedVariables false
set_option linter.unusedSimpArgs false
set_option maxRecDepth 100000
theorem uniq_par {κ μ : Type} [DecidableEq κ] [DecidableEq μ] (f : Nat → κ) (g : Nat → μ) (m : Nat) (h : ∀ a b, a < m → b < m → (f a = f b ↔ g a = g b)) :
 ∀ n, n ≤ m → (uniq f n).length = (uniq g n).length ∧ ∀ b, b < n → ix (uniq f n) (f b) = ix (uniq g n) (g b)
 | 0, _ => ⟨by rw [uniq_zero, uniq_zero]; rfl, fun b hb => by omega⟩
 | n + 1, hn => by
   obtain ⟨h1, h2⟩ := uniq_par f g m h n (by omega)
   have hmem : f n ∈ uniq f n ↔ g n ∈ uniq g n := by
    constructor
    ·intro hf
     obtain ⟨b, hb, he⟩ := uniq_from f n hf
     have := uniq_more g (b + 1) (n - (b + 1))
     rw [show b + 1 + (n - (b + 1)) = n by omega] at this
     obtain ⟨t, ht⟩ := this
     rw [← (h b n (by omega) (by omega)).1 he, ht]
     exact List.mem_append_left _ (uniq_mem g b)
    ·intro hg
     obtain ⟨b, hb, he⟩ := uniq_from g n hg
     have := uniq_more f (b + 1) (n - (b + 1))
     rw [show b + 1 + (n - (b + 1)) = n by omega] at this
     obtain ⟨t, ht⟩ := this
     rw [← (h b n (by omega) (by omega)).2 he, ht]
     exact List.mem_append_left _ (uniq_mem f b)
   have hin : ∀ {κ : Type} [DecidableEq κ] (f : Nat → κ) b, b < n → f b ∈ uniq f n := fun f b hb => by
    obtain ⟨t, ht⟩ := uniq_more f (b + 1) (n - (b + 1))
    rw [show b + 1 + (n - (b + 1)) = n by omega] at ht
    rw [ht]; exact List.mem_append_left _ (uniq_mem f b)
   by_cases hf : f n ∈ uniq f n
   ·have hg := hmem.1 hf
    rw [uniq_in hf, uniq_in hg]
    refine ⟨h1, fun b hb => ?_⟩
    by_cases e : b = n
    ·subst e
     obtain ⟨c, hc, he⟩ := uniq_from f b hf
     rw [← he, ← (h c b (by omega) (by omega)).1 he]
     exact h2 c hc
    ·exact h2 b (by omega)
   ·have hg := fun hg => hf (hmem.2 hg)
    rw [uniq_new hf, uniq_new hg]
    refine ⟨by simp [h1], fun b hb => ?_⟩
    by_cases e : b = n
    ·subst e
     rw [ix_new hf, ix_new hg, h1]
    ·rw [ix_app (hin f b (by omega)), ix_app (hin g b (by omega))]
     exact h2 b (by omega)
theorem ix_inj {κ : Type} [DecidableEq κ] {E : List κ} {x y : κ} (hx : x ∈ E) (hy : y ∈ E) (h : ix E x = ix E y) : x = y := by
 have h1 := get_ix hx
 rw [h, get_ix hy] at h1
 exact (Option.some.inj h1).symm
theorem uniq_has {κ : Type} [DecidableEq κ] (f : Nat → κ) {b n : Nat} (hb : b < n) : f b ∈ uniq f n := by
 obtain ⟨t, ht⟩ := uniq_more f (b + 1) (n - (b + 1))
 rw [show b + 1 + (n - (b + 1)) = n by omega] at ht
 rw [ht]; exact List.mem_append_left _ (uniq_mem f b)
theorem ren_ren (name : Nat → Int × Int) : (∀ b, b < 256 → ren (nameOf (ren name)) b = ren name b) ∧ renN (nameOf (ren name)) = renN name := by
 have h : ∀ a b, a < 256 → b < 256 → (nameOf (ren name) a = nameOf (ren name) b ↔ name a = name b) := fun a b ha hb => by
  unfold nameOf
  constructor
  ·intro he
   have he : (ren name a : Int) = ren name b := congrArg Prod.fst he
   have he : ren name a = ren name b := by omega
   unfold ren at he
   exact ix_inj (uniq_has name ha) (uniq_has name hb) he
  ·intro he
   have : ren name a = ren name b := by unfold ren; rw [he]
   rw [this]
 obtain ⟨h1, h2⟩ := uniq_par (nameOf (ren name)) name 256 h 256 (Nat.le_refl _)
 refine ⟨fun b hb => ?_, ?_⟩
 ·unfold ren at *; exact h2 b hb
 ·unfold renN; exact h1
theorem ren_may (name : Nat → Int × Int) : clsMay (ren name) (renN name) = true := by
 obtain ⟨h1, h2⟩ := ren_ren name
 unfold clsMay
 simp only [Bool.and_eq_true, List.all_eq_true, List.mem_range, beq_iff_eq]
 exact ⟨fun b hb => (h1 b hb).symm, by rw [h2]⟩
theorem zero_may : clsMay (fun _ => 0) 1 = true := by
 have h := uniq_par (nameOf fun _ => 0) (fun _ => (0 : Nat)) 256 (fun a b _ _ => by simp [nameOf]) 256 (Nat.le_refl _)
 have hu : ∀ n, uniq (fun _ => (0 : Nat)) (n + 1) = [0] := by
  intro n
  induction n with
  | zero => rw [uniq_succ, uniq_zero]; rfl
  | succ n ih => rw [uniq_succ, ih]; rfl
 rw [hu 255] at h
 obtain ⟨h1, h2⟩ := h
 unfold clsMay
 simp only [Bool.and_eq_true, List.all_eq_true, List.mem_range, beq_iff_eq]
 refine ⟨fun b hb => ?_, ?_⟩
 ·unfold ren; rw [h2 b hb]; rfl
 ·unfold renN; rw [h1]; rfl
theorem part_may (l : List Set4) : clsMay (partM l).1 (partM l).2 = true := by
 have h : ∀ (l : List Set4) (c : (Nat → Nat) × Nat), clsMay c.1 c.2 = true → clsMay (l.foldl partStep c).1 (l.foldl partStep c).2 = true := by
  intro l
  induction l with
  | nil => intro c h; exact h
  | cons s l ih => intro c h; exact ih _ (ren_may _)
 exact h l _ zero_may
theorem part_le (l : List Set4) : 1 ≤ (partM l).2 ∧ (partM l).2 ≤ 256 := by
 have h : ∀ (l : List Set4) (c : (Nat → Nat) × Nat), 1 ≤ c.2 ∧ c.2 ≤ 256 → 1 ≤ (l.foldl partStep c).2 ∧ (l.foldl partStep c).2 ≤ 256 := by
  intro l
  induction l with
  | nil => intro c h; exact h
  | cons s l ih =>
    intro c h
    refine ih _ ⟨?_, renN_le _⟩
    have := ren_lt (partName c.1 s) (b := 0) (by omega)
    show 1 ≤ renN _
    omega
 exact h l _ ⟨Nat.le_refl _, by omega⟩
end Hk
namespace Hk
open Go Go.Proofs
set_option maxRecDepth 100000
def rf45 : RFn := ⟨1, 124, [.cell 2 259 true, .tmp 3], .seq (.ops [D 1 (.box false 0 6),
D 2 (.allocx 256 (.int .u8 0) [(.int .i64 0), (.isl 0 [] (some 0)), (.isl 0 [] (some 0))]),
D 3 (.mov (I 0))])
(.seq (.seq (.ops [D 16 (.load 1 6 true),
D 17 (.call 118 [16]),
D 18 (.un .not 17)])
(.cond 18 (.seq (.ops [D 19 (.buildx 256 (.int .u8 0) [(.int .i64 0), (.isl 0 [] (some 0)), (.isl 0 [] (some 0))] []),
N (.store 2 19 259),
D 3 (.mov (I 1))])
(.ret)) (.skip)))
(.seq (.draw (.take (D 20 (.fadr 1 0))<|
.take (D 21 (.load 20 1 false))<|
.take (D 23 (.fadr 1 5))<|
.take (D 24 (.load 23 1 false))<|
.alt (D 22 (.call 119 [21])) false (.alt (D 25 (.bslice 1 [24])) false (.take (D 26 (.buildx 256 (.int .u8 0) [(.int .i64 0), (.isl 0 [] (some 0)), (.isl 0 [] (some 0))] [(0, 257, 22), (258, 1, 25)]))<|
.alt (D 4 (.allocx 256 (.int .u8 0) [(.int .i64 0), (.isl 0 [] (some 0)), (.isl 0 [] (some 0))])) false (.alt (N (.store 4 26 259)) true (.done)
(.noalt))
(.noalt))
(.alt (D 4 (.allocx 256 (.int .u8 0) [(.int .i64 0), (.isl 0 [] (some 0)), (.isl 0 [] (some 0))])) false (.alt (D 25 (.bslice 1 [24])) false (.take (D 26 (.buildx 256 (.int .u8 0) [(.int .i64 0), (.isl 0 [] (some 0)), (.isl 0 [] (some 0))] [(0, 257, 22), (258, 1, 25)]))<|
.alt (N (.store 4 26 259)) true (.done)
(.noalt))
(.noalt))
(.noalt)))
(.alt (D 25 (.bslice 1 [24])) false (.alt (D 22 (.call 119 [21])) false (.take (D 26 (.buildx 256 (.int .u8 0) [(.int .i64 0), (.isl 0 [] (some 0)), (.isl 0 [] (some 0))] [(0, 257, 22), (258, 1, 25)]))<|
.alt (D 4 (.allocx 256 (.int .u8 0) [(.int .i64 0), (.isl 0 [] (some 0)), (.isl 0 [] (some 0))])) false (.alt (N (.store 4 26 259)) true (.done)
(.noalt))
(.noalt))
(.alt (D 4 (.allocx 256 (.int .u8 0) [(.int .i64 0), (.isl 0 [] (some 0)), (.isl 0 [] (some 0))])) false (.alt (D 22 (.call 119 [21])) false (.take (D 26 (.buildx 256 (.int .u8 0) [(.int .i64 0), (.isl 0 [] (some 0)), (.isl 0 [] (some 0))] [(0, 257, 22), (258, 1, 25)]))<|
.alt (N (.store 4 26 259)) true (.done)
(.noalt))
(.noalt))
(.noalt)))
(.alt (D 4 (.allocx 256 (.int .u8 0) [(.int .i64 0), (.isl 0 [] (some 0)), (.isl 0 [] (some 0))])) false (.alt (D 22 (.call 119 [21])) false (.alt (D 25 (.bslice 1 [24])) false (.take (D 26 (.buildx 256 (.int .u8 0) [(.int .i64 0), (.isl 0 [] (some 0)), (.isl 0 [] (some 0))] [(0, 257, 22), (258, 1, 25)]))<|
.alt (N (.store 4 26 259)) true (.done)
(.noalt))
(.noalt))
(.alt (D 25 (.bslice 1 [24])) false (.alt (D 22 (.call 119 [21])) false (.take (D 26 (.buildx 256 (.int .u8 0) [(.int .i64 0), (.isl 0 [] (some 0)), (.isl 0 [] (some 0))] [(0, 257, 22), (258, 1, 25)]))<|
.alt (N (.store 4 26 259)) true (.done)
(.noalt))
(.noalt))
(.noalt)))
(.noalt)))))
(.seq (.ops [D 27 (.fadr 4 0),
D 28 (.fadr 27 256),
D 29 (.load 28 1 false),
D 30 (.mksl [(.int .u8 0)] 1 1 29 29),
D 5 (.mov 30)])
(.seq (.seq (.ops [D 31 (.mov 5),
D 32 (.len 31),
D 33 (.mov (I 0))])
(.block 0 (.loop [1, 2, 4, 5, 32, 33] (.seq (.ops [D 34 (.bin .lss 33 32)])
(.seq (.cond 34 (.skip) (.exit 0))
(.seq (.block 1 (.seq (.ops [D 35 (.mov 33),
D 6 (.mov 35)])
(.ops [D 36 (.mov 5),
D 37 (.mov 6),
D 38 (.fadr 4 0),
D 39 (.load 38 257 true),
D 40 (.mov 6),
D 41 (.call 103 [39, 40]),
D 42 (.convI .u8 41),
D 43 (.idxS 36 37 1),
N (.store 43 42 1)])))
(.ops [D 44 (.bin .add 33 (I 1)),
D 33 (.mov 44)])))))))
(.seq (.ops [D 45 (.mkmap false [.str]),
D 7 (.mov 45)])
(.seq (.ops [D 46 (.bslice 1 [(.c (.isl 0 [] (some 0)))]),
D 8 (.mov 46)])
(.seq (.seq (.ops [D 9 (.mov (I 0))])
(.block 2 (.loop [1, 2, 4, 5, 7, 8, 9] (.seq (.seq (.ops [D 47 (.mov 9),
D 48 (.mov 8),
D 49 (.len 48),
D 50 (.bin .lss 47 49)])
(.cond 50 (.skip) (.exit 2)))
(.seq (.block 3 (.seq (.ops [D 53 (.fadr 4 0),
D 54 (.fadr 53 256),
D 55 (.load 54 1 false),
D 56 (.mksl [(.int .i64 0)] 1 8 55 55),
D 10 (.mov 56)])
(.seq (.seq (.ops [D 57 (.mov 5),
D 58 (.len 57),
D 59 (.mov (I 0))])
(.block 4 (.loop [1, 2, 4, 5, 7, 8, 9, 10, 57, 58, 59] (.seq (.ops [D 60 (.bin .lss 59 58)])
(.seq (.cond 60 (.skip) (.exit 4))
(.seq (.block 5 (.seq (.ops [D 61 (.mov 59),
D 62 (.idxS 57 59 1),
D 63 (.load 62 1 false),
D 11 (.mov 61),
D 12 (.mov 63)])
(.seq (.ops [D 13 (.mov (.c (.isl 0 [] (some 0))))])
(.seq (.seq (.ops [D 64 (.mov 9),
D 65 (.bin .eql 64 (I 0))])
(.cond 65 (.ops [D 66 (.load 1 6 true),
D 67 (.mov 12),
D 68 (.call 120 [66, 67]),
D 13 (.mov 68)]) (.draw (.take (D 69 (.load 1 6 true))<|
.take (D 70 (.mov 8))<|
.take (D 71 (.mov 9))<|
.take (D 72 (.idxS 70 71 1))<|
.take (D 73 (.load 72 1 false))<|
.take (D 74 (.mov 12))<|
.alt (D 75 (.call 121 [69, 73, 74])) true (.take (D 13 (.mov 75))<|
.done)
(.noalt)))))
(.seq (.ops [D 76 (.mov 10),
D 77 (.mov 11),
D 78 (.idxS 76 77 1),
N (.store 78 (I (-1)) 1)])
(.seq (.seq (.ops [D 79 (.mov 13),
D 80 (.len 79),
D 81 (.bin .eql 80 (I 0))])
(.cond 81 (.exit 5) (.skip)))
(.seq (.ops [D 83 (.mov 7),
D 84 (.mov 13),
D 85 (.call 122 [84]),
D 86 (.mlook false [.str] (.int .i64 0) true 83 85),
D 82 (.mov 86),
D 87 (.ext 82 0),
D 88 (.ext 82 1),
D 14 (.mov 87),
D 15 (.mov 88)])
(.seq (.seq (.ops [D 89 (.mov 15),
D 90 (.un .not 89)])
(.cond 90 (.seq (.ops [D 91 (.mov 8),
D 92 (.len 91),
D 14 (.mov 92)])
(.seq (.ops [D 93 (.mov 7),
D 94 (.mov 13),
D 95 (.call 122 [94]),
D 96 (.mov 14),
N (.mset false [.str] 93 95 96)])
(.seq (.ops [D 97 (.mov 8),
D 98 (.mov 13),
D 99 (.bslice 1 [98]),
D 100 (.app 97 99 1 24),
D 8 (.mov 100)])
(.draw (.take (D 101 (.fadr 4 258))<|
.take (D 102 (.load 101 1 false))<|
.take (D 103 (.load 1 6 true))<|
.take (D 104 (.mov 13))<|
.alt (D 105 (.call 123 [103, 104])) false (.alt (D 106 (.bslice 1 [105])) false (.alt (D 107 (.app 102 106 1 8)) true (.take (D 108 (.fadr 4 258))<|
.alt (N (.store 108 107 1)) true (.done)
(.noalt))
(.noalt))
(.noalt))
(.noalt)))))) (.skip)))
(.seq (.seq (.ops [D 109 (.mov 14),
D 110 (.bin .geq 109 (I 600))])
(.cond 110 (.seq (.ops [D 111 (.buildx 256 (.int .u8 0) [(.int .i64 0), (.isl 0 [] (some 0)), (.isl 0 [] (some 0))] []),
N (.store 2 111 259),
D 3 (.mov (I 4))])
(.ret)) (.skip)))
(.ops [D 112 (.mov 10),
D 113 (.mov 11),
D 114 (.mov 14),
D 115 (.idxS 112 113 1),
N (.store 115 114 1)]))))))))))
(.ops [D 116 (.bin .add 59 (I 1)),
D 59 (.mov 116)])))))))
(.ops [D 117 (.fadr 4 257),
D 118 (.load 117 1 false),
D 119 (.mov 10),
D 120 (.bslice 1 [119]),
D 121 (.app 118 120 1 24),
D 122 (.fadr 4 257),
N (.store 122 121 1)]))))
(.ops [D 51 (.mov 9),
D 52 (.bin .add 51 (I 1)),
D 9 (.mov 52)]))))))
(.seq (.ops [D 123 (.load 4 259 true),
N (.store 2 123 259),
D 3 (.mov (I 0))])
(.ret)))))))))⟩
theorem rf45_eq : cfnAt Tryz.prog 45 [[1, 2, 4, 5, 32, 33], [1, 2, 4, 5, 7, 8, 9], [1, 2, 4, 5, 7, 8, 9, 10, 57, 58, 59]] = some rf45 := by kernel_rfl
end Hk
namespace Hk
open Go Go.Proofs
set_option linter.unusedVariables false
set_option linter.unusedSimpArgs false
set_option maxRecDepth 100000
def Dfa.zero : Dfa := ⟨fun _ => 0, 0, [], []⟩
def zero3 : List AV := [.p (i64 0), .p nilSl, .p nilSl]
def zArr : List PV := List.replicate 256 (.int .u8 0)
def subBytes (n : Nfa) : List Nat := lows (partM n.sets).1 (partM n.sets).2
def subI (n : Nfa) : Dfa × Int :=
 match sLoop n (subBytes n) 602 [] [] with
 | none => (Dfa.zero, 4)
 | some (T, rows) => (⟨(partM n.sets).1, (partM n.sets).2, rows, n.emp :: T.map n.tag⟩, 0)
def rowE (b : Nat) : List PV := [.int .u8 b]
theorem klel_arr {h : List Blk} {fz kp : Nat → Bool} {xs : List AV} {ys : List PV} (hx : KLeL h fz kp xs (ys.map .p)) : ∀ arr : List PV, KLeL h fz kp (arr.map .p ++ xs) ((arr ++ ys).map .p)
 | [] => hx
 | x :: arr => KLeL.cons (KLe.pe rfl) (klel_arr hx arr)
theorem kb_inj {p q : Int} (hp : 0 ≤ p ∧ p < 65536) (hq : 0 ≤ q ∧ q < 65536) (h : kb p = kb q) : p = q := by
 unfold kb at h
 simp only [List.cons.injEq, and_true] at h
 obtain ⟨h1, h2⟩ := h
 have e1 := congrArg UInt8.toNat h1
 have e2 := congrArg UInt8.toNat h2
 simp at e1 e2
 omega
theorem keyI_inj : ∀ {l m : List Int}, (∀ p ∈ l, 0 ≤ p ∧ p < 65536) → (∀ p ∈ m, 0 ≤ p ∧ p < 65536) → keyI l = keyI m → l = m
 | [], [], _, _, _ => rfl
 | [], q :: m, _, _, h => by simp [keyI, kb] at h
 | p :: l, [], _, _, h => by simp [keyI, kb] at h
 | p :: l, q :: m, hl, hm, h => by
   have e : ∀ (x : Int) (r : List Int), keyI (x :: r) = kb x ++ keyI r := fun x r => by simp [keyI]
   rw [e, e] at h
   obtain ⟨h1, h2⟩ := List.append_inj h (by simp [kb])
   rw [kb_inj (hl p (by simp)) (hm q (by simp)) h1, keyI_inj (fun x hx => hl x (by simp [hx])) (fun x hx => hm x (by simp [hx])) h2]
def kpS (l : List Int) : PV := .str (keyI l)
def entsS (T : List (List Int)) : List (PV × PV) := entsFrom kpS (fun i => i64 i) 1 T
theorem kpS_eq {l m : List Int} (hl : ∀ p ∈ l, 0 ≤ p ∧ p < 65536) (hm : ∀ p ∈ m, 0 ≤ p ∧ p < 65536) : keyEq (kpS l) (kpS m) = decide (l = m) := by
 show (keyI l == keyI m) = _
 by_cases h : l = m
 ·subst h; simp
 ·have : keyI l ≠ keyI m := fun e => h (keyI_inj hl hm e)
  simp [h, this]
theorem mfindS {k : List Int} (hk : ∀ p ∈ k, 0 ≤ p ∧ p < 65536) : ∀ (E : List (List Int)) (s i : Nat), (∀ l ∈ E, ∀ p ∈ l, 0 ≤ p ∧ p < 65536) →
 mfind (entsFrom kpS (fun i => i64 i) s E) (kpS k) i = if k ∈ E then some (i + ix E k, i64 (s + ix E k : Nat)) else none
 | [], s, i, _ => rfl
 | x :: r, s, i, h => by
   simp only [entsFrom, mfind, kpS_eq hk (h x (by simp)), List.mem_cons]
   rw [ix_cons]
   by_cases e : k = x
   ·subst e; simp
   ·rw [mfindS hk r (s + 1) (i + 1) (fun l hl => h l (by simp [hl])), if_neg e]
    simp only [e, decide_false, cond_false, false_or]
    split
    ·rw [show i + 1 + ix r k = i + (ix r k + 1) by omega, show s + 1 + ix r k = s + (ix r k + 1) by omega]
    ·rfl
theorem mputS {k : List Int} (hk : ∀ p ∈ k, 0 ≤ p ∧ p < 65536) (v : PV) : ∀ (E : List (List Int)) (s : Nat), (∀ l ∈ E, ∀ p ∈ l, 0 ≤ p ∧ p < 65536) → ¬ k ∈ E →
 mput (entsFrom kpS (fun i => i64 i) s E) (kpS k) v = entsFrom kpS (fun i => i64 i) s E ++ [(kpS k, v)]
 | [], s, _, _ => rfl
 | x :: r, s, h, hn => by
   have e : ¬ k = x := fun e => hn (by simp [e])
   simp only [entsFrom, mput, kpS_eq hk (h x (by simp)), e, decide_false, cond_false, List.cons_append]
   rw [mputS hk v r (s + 1) (fun l hl => h l (by simp [hl])) (fun hm => hn (by simp [hm]))]
theorem plel_arr {xs ys : List PV} (h : PLeL xs ys) : ∀ arr : List PV, PLeL (arr ++ xs) (arr ++ ys)
 | [] => h
 | x :: arr => .cons (.refl _) (plel_arr h arr)
theorem sb_zero : PLe (.agg (List.replicate 256 (.int .u8 0) ++ [i64 0, nilSl, nilSl])) Dfa.zero.pv := by
 rw [clsArr_zero]
 exact PLe.agg (plel_arr (.cons (.refl _) (.cons (.nil (.inl rfl)) (.cons (.nil (.inl rfl)) (.refl _)))) _)
def sbSt (n : Nfa) (o : Nat → Nat) (N : Nat) (T rows : List (List Int)) : St :=
 ⟨[(1, .ptr 0 6 0 0), (2, .ptr 1 259 0 0), (4, .ptr 3 259 0 0), (5, .sl 4 1 0 N none), (7, .mpr 5), (8, .sl 6 1 0 (T.length + 1) none), (9, .p (i64 rows.length))],
  [.mx (n.cells.map .p), .ax 256 zArr zero3, .pr 1 (ints (n.emp :: T.map n.tag)), .ax 256 (clsArr o) [.p (i64 N), .sl 7 1 0 rows.length none, .sl 2 1 0 (T.length + 1) none],
   .pr 1 (upto N N (fun c => rowE (lowOf o N c)) [.int .u8 0]), .mp false [.str] (entsS T), .pr 1 ([nilSl] :: T.map rowLs), .pr 1 (rows.map rowLs)]⟩
structure SbInv (n : Nfa) (bytes : List Nat) (R : Option (List (List Int) × List (List Int))) (T rows : List (List Int)) : Prop where
 ok : TOk n T
 lt : T.length + 1 ≤ 600
 le : rows.length ≤ T.length + 1
 eq : sLoop n bytes (602 - rows.length) T rows = R
set_option maxHeartbeats 16000000 in
theorem subset_fn (n : Nfa) (hn : n.May) : Fn Tryz.prog 45 [.p n.pv] [] [] (fun r H => r = .tup [.p (subI n).1.pv, .p (i64 (subI n).2)] ∧ H = []) := by
 have hm := nmay_fn n hn
 have hpa := part_fn n.sets none (by have := hn.size; omega)
 have hpm := part_may n.sets
 have hpl := part_le n.sets
 have ho := fun b hb => partM_lt n.sets (fun _ => 0, 1) (fun b _ => by show 0 < 256; omega) b hb
 have ho : ∀ b, b < 256 → (partM n.sets).1 b < 256 := ho
 generalize hsub : subI n = res
 unfold subI subBytes at hsub
 generalize hop : partM n.sets = op at *
 obtain ⟨o, N⟩ := op
 have hpa : PF Tryz.prog 119 [.isl 4 (n.sets.map Set4.cells) none] (clsPV o N) := hpa
 have hpm : clsMay o (N : Int) = true := hpm
 have hpl : 1 ≤ N ∧ N ≤ 256 := hpl
 have ho : ∀ b, b < 256 → o b < 256 := ho
 refine f_intro rf45_eq rmixed rfl ?_
 (refine hkG ?_)
 refine vcall_pf hm rfl rfl ?_
 (refine hkG ?_)
 (refine hkC ?_)
 apply once
 ·intro hb
  repeat' (first
   | (refine And.intro ?_ ?_ <;> (refine hkH ?_))
   | exact trivial
   | (refine vcall_pf hpa rfl rfl ?_; (refine hkH ?_))
   | (refine ⟨_, [_], ax_whole (rest := [_]), ⟨rfl, clsArr_len o, rfl, Nat.le_of_ble_eq_true rfl⟩, ?_⟩; (refine hkH ?_))
   | (refine ⟨_, _, rfl, ⟨rfl, rfl, clsArr_len o, rfl, Nat.le_of_ble_eq_true rfl⟩, ?_⟩; (refine hkH ?_))
   | (refine joinK.via ⟨[(1, .ptr 0 6 0 0), (2, .ptr 1 259 0 0), (4, .ptr 3 259 0 0)], [.mx (n.cells.map .p), .ax 256 zArr zero3, .pr 1 [[i64 n.emp]], .ax 256 (clsArr o) [.p (i64 N), .p nilSl, .sl 2 1 0 1 none]]⟩ hb.of ?_; (refine ⟨⟨rfl,rfl⟩,?_,?_⟩<;>((repeat'(first|exact TLe.nil|exact HLe.nil _|refine TLe.cons ?_ ?_|refine HLe.cons ?_ ?_|exact KLe.ptr rfl|exact KLe.sl rfl (.inl rfl)|exact KLe.csl rfl|exact KLe.mpr rfl|refine KLe.pe ?_|refine KLe.tup ?_|refine KLe.agg ?_|refine BLe.pe ?_|refine BLe.mpe ?_|refine BLe.ghe ?_|refine BLe.axe ?_ ?_|refine BLe.mx ?_|exact KLeL.nil|refine KLe.fn ?_ ?_|refine KLeL.cons ?_ ?_|exact KLe.und _|exact BLe.dead _))<;>(try with_reducible rfl))); all_goals rfl)
   | (refine joinK.perm [0, 1, 3, 2] ⟨[(1, .ptr 0 6 0 0), (2, .ptr 1 259 0 0), (4, .ptr 3 259 0 0)], [.mx (n.cells.map .p), .ax 256 zArr zero3, .pr 1 [[i64 n.emp]], .ax 256 (clsArr o) [.p (i64 N), .p nilSl, .sl 2 1 0 1 none]]⟩ hb.of rfl ?_; (refine ⟨⟨rfl,rfl⟩,?_,?_⟩<;>((repeat'(first|exact TLe.nil|exact HLe.nil _|refine TLe.cons ?_ ?_|refine HLe.cons ?_ ?_|exact KLe.ptr rfl|exact KLe.sl rfl (.inl rfl)|exact KLe.csl rfl|exact KLe.mpr rfl|refine KLe.pe ?_|refine KLe.tup ?_|refine KLe.agg ?_|refine BLe.pe ?_|refine BLe.mpe ?_|refine BLe.ghe ?_|refine BLe.axe ?_ ?_|refine BLe.mx ?_|exact KLeL.nil|refine KLe.fn ?_ ?_|refine KLeL.cons ?_ ?_|exact KLe.und _|exact BLe.dead _))<;>(try with_reducible rfl))); all_goals rfl))
 ·have hN : N ≤ 256 := hpl.2
  have hlow := fun k (hk : k < N) => low_spec (o := o) (n := (N : Int)) hpm (k := k) (by omega)
  (refine hkG ?_)
  refine And.intro ⟨by omega, by omega, by show (N : Int) * 1 ≤ 70368744177664; omega, by show (N : Int) ≤ 70368744177664; omega⟩ ?_
  (refine hkG ?_)
  refine ⟨[], Nat, fun k => ⟨[(1, .ptr 0 6 0 0), (2, .ptr 1 259 0 0), (4, .ptr 3 259 0 0), (5, .sl 4 1 0 N none), (32, .p (i64 N)), (33, .p (i64 k))],
   [.mx (n.cells.map .p), .ax 256 zArr zero3, .pr 1 [[i64 n.emp]], .ax 256 (clsArr o) [.p (i64 N), .p nilSl, .sl 2 1 0 1 none], .pr 1 (upto N k (fun c => rowE (lowOf o N c)) [.int .u8 0])]⟩,
   fun k => k ≤ N, fun k => N - k, ⟨0, Nat.zero_le _, ?_⟩, fun k hk => ?_⟩
  ·((refine ⟨⟨rfl,rfl⟩,?_,?_⟩<;>((repeat'(first|exact TLe.nil|exact HLe.nil _|refine TLe.cons ?_ ?_|refine HLe.cons ?_ ?_|exact KLe.ptr rfl|exact KLe.sl rfl (.inl rfl)|exact KLe.csl rfl|exact KLe.mpr rfl|refine KLe.pe ?_|refine KLe.tup ?_|refine KLe.agg ?_|refine BLe.pe ?_|refine BLe.mpe ?_|refine BLe.ghe ?_|refine BLe.axe ?_ ?_|refine BLe.mx ?_|exact KLeL.nil|refine KLe.fn ?_ ?_|refine KLeL.cons ?_ ?_|exact KLe.und _|exact BLe.dead _))<;>(try with_reducible rfl)))<;>(first|rfl|((refine congrArg (PV.int IntKind.i64) ?_)<;>(first|rfl|omega|(rw [add64 (by omega) (by omega)];omega)|(rw [sub64 (by omega) (by omega)];omega)))|skip))
   ·exact (upto_zero _ _ _).symm
  ·have hk : k ≤ N := hk
   by_cases hke : k = N
   ·have hke : N = k := hke.symm
    subst hke
    clear hm hpa hlow ho
    generalize hR : sLoop n (lows o N) 602 [] [] = R at hsub
    (refine hkG ?_)
    (refine hkD ?_)
    refine ⟨[.cell 3 257 1], List (List Int) × List (List Int), fun x => sbSt n o N x.1 x.2, fun x => SbInv n (lows o N) R x.1 x.2, fun x => 602 - x.2.length, ⟨([], []), ⟨(fun l hl => by cases hl), (by show 0 + 1 ≤ 600; omega), Nat.zero_le _, hR⟩, ?_⟩, fun x hx => ?_⟩
    ·(exact hkL)
     trace_state
    ·obtain ⟨T, rows⟩ := x
     obtain ⟨h1, h2, h3, h4⟩ := hx
     have h1 : TOk n T := h1
     have h2 : T.length + 1 ≤ 600 := h2
     have h3 : rows.length ≤ T.length + 1 := h3
     have h4 : sLoop n (lows o N) (602 - rows.length) T rows = R := h4
     have hil := ints_len (n.emp :: T.map n.tag)
     have hil : (ints (n.emp :: T.map n.tag)).length = T.length + 1 := by rw [hil]; simp
     have hpl1 : ([nilSl] :: T.map rowLs).length = T.length + 1 := by simp
     have hrl : (rows.map rowLs).length = rows.length := by simp
     by_cases hie : rows.length = T.length + 1
     ·have hRe : R = some (T, rows) := by
       rw [← h4, show 602 - rows.length = (601 - rows.length) + 1 by omega, sLoop, if_neg (by omega)]
      rw [hRe] at hsub
      (refine hkG ?_)
      (refine hkD ?_)
      refine ⟨_, _, rfl, ⟨rfl, rfl, clsArr_len o, rfl, Nat.le_refl _⟩, ?_⟩
      (refine hkG ?_)
      refine ⟨_, [], ⟨rfl, rfl⟩, ⟨rfl, rfl⟩, ?_, HLe.nil _⟩
      rw [← hsub]
      refine KLe.tup (KLeL.cons (KLe.aggp (klel_arr (ys := [i64 N, .isl 1 (rows.map rowLs) none, .isl 1 (ints (n.emp :: T.map n.tag)) none]) (KLeL.cons (KLe.pe rfl)
       (KLeL.cons (KLe.fsl (rs := rows.map rowLs) rfl rfl (take_all (Nat.le_of_eq hrl)) hrl (.refl _))
       (KLeL.cons (KLe.fsl (rs := ints (n.emp :: T.map n.tag)) rfl rfl (take_all (Nat.le_of_eq hil)) hil (.refl _)) KLeL.nil))) (clsArr o))) (KLeL.cons (KLe.pe rfl) KLeL.nil))
     ·have hlt : rows.length < T.length + 1 := by omega
      obtain ⟨i, hi⟩ : ∃ i, i = rows.length := ⟨_, rfl⟩
      rw [← hi] at hlt h3 h4 hie hrl
      obtain ⟨P, P0, PL, PS⟩ := fold_seq (sStep n T i) T (lows o N)
      have hbl : (lows o N).length = N := by simp [lows]
      rw [hbl] at PL
      have PS : ∀ c, c < N → P (c + 1) = sEnter (P c) (sNext n T i (lowOf o N c)) := fun c hc => PS c _ (by unfold lows; rw [List.getElem?_map, List.getElem?_range hc]; rfl)
      have Pok : ∀ c, c ≤ N → TOk n (P c) := by
       intro c
       induction c with
       | zero => intro _; rw [P0]; exact h1
       | succ c ih => intro hc; rw [PS c (by omega)]; exact (ih (by omega)).enter n (sNext_asc n hn.first T i _)
      have Ppre : ∀ j c, c + j ≤ N → ∃ r, P (c + j) = P c ++ r := by
       intro j
       induction j with
       | zero => intro c _; exact ⟨[], by simp⟩
       | succ j ih =>
         intro c hc
         obtain ⟨r, hr⟩ := ih c (by omega)
         obtain ⟨r', hr'⟩ := sEnter_pre (P (c + j)) (sNext n T i (lowOf o N (c + j)))
         exact ⟨r ++ r', by rw [← Nat.add_assoc, PS (c + j) (by omega), hr', hr, List.append_assoc]⟩
      obtain ⟨V, hV⟩ : ∃ V, V = P N := ⟨_, rfl⟩
      obtain ⟨f, hf⟩ : ∃ f : Nat → List PV, f = fun c => rowI (sNum V (sNext n T i (lowOf o N c))) := ⟨_, rfl⟩
      (refine hkG ?_)
      (refine hkD ?_)
      refine And.intro ⟨by omega, by omega, by show (N : Int) * 8 ≤ 70368744177664; omega, by show (N : Int) ≤ 70368744177664; omega⟩ ?_
      (refine hkG ?_)
      refine ⟨[], Nat, fun c => ⟨[(1, .ptr 0 6 0 0), (2, .ptr 1 259 0 0), (4, .ptr 3 259 0 0), (5, .sl 4 1 0 N none), (7, .mpr 5), (8, .sl 6 1 0 ((P c).length + 1) none), (9, .p (i64 i)),
       (10, .sl 8 1 0 N none), (57, .sl 4 1 0 N none), (58, .p (i64 N)), (59, .p (i64 c))],
       [.mx (n.cells.map .p), .ax 256 zArr zero3, .pr 1 (ints (n.emp :: (P c).map n.tag)), .ax 256 (clsArr o) [.p (i64 N), .sl 7 1 0 i none, .sl 2 1 0 ((P c).length + 1) none],
        .pr 1 (upto N N (fun c => rowE (lowOf o N c)) [.int .u8 0]), .mp false [.str] (entsS (P c)), .pr 1 ([nilSl] :: (P c).map rowLs), .pr 1 (rows.map rowLs), .pr 1 (upto N c f [i64 0])]⟩,
       fun c => c ≤ N ∧ (P c).length + 1 ≤ 600, fun c => N - c, ⟨0, ⟨Nat.zero_le _, by rw [P0]; exact h2⟩, ?_⟩, fun c hc => ?_⟩
      ·show StLe _ _ ⟨[_, _, _, _, _, (8, .sl 6 1 0 ((P 0).length + 1) none), _, _, _, _, _], [_, _, .pr 1 (ints (n.emp :: (P 0).map n.tag)), .ax 256 _ [_, _, .sl 2 1 0 ((P 0).length + 1) none], _, .mp false [.str] (entsS (P 0)), .pr 1 ([nilSl] :: (P 0).map rowLs), _, .pr 1 (upto N 0 f [i64 0])]⟩
       rw [P0, upto_zero, hi]
       (exact hkL)
      ·obtain ⟨hcN, hcl⟩ := hc
       have hcN : c ≤ N := hcN
       have hcl : (P c).length + 1 ≤ 600 := hcl
       by_cases hce : c = N
       ·have hce : N = c := hce.symm
        subst hce
        have hsr : sRound n (lows o N) T rows.length = V := by rw [hV, PL, ← hi]; rfl
        have hrow : upto N N f [i64 0] = ints (sRow n (lows o N) T V i) := by
         rw [upto_full, hf]; unfold sRow lows ints; rw [List.map_map, List.map_map]; rfl
        obtain ⟨r, hr⟩ := Ppre N 0 (by omega)
        rw [P0, Nat.zero_add] at hr
        have hinv : SbInv n (lows o N) R V (rows ++ [sRow n (lows o N) T V i]) := by
         have hVl : V.length = T.length + r.length := by rw [hV, hr]; simp
         refine ⟨hV ▸ Pok N (Nat.le_refl _), by rw [hV]; exact hcl, by simp; omega, ?_⟩
         rw [← h4, show 602 - i = (601 - i) + 1 by omega, sLoop, if_pos (by omega), hsr, if_neg (by rw [hV]; omega), ← hi]
         congr 1
         simp; omega
        have hul : (upto N N f [i64 0]).length = N := upto_len _ _ _ _
        have htk : (dropN 0 (upto N N f [i64 0])).take N = upto N N f [i64 0] := take_all (Nat.le_of_eq hul)
        have hi600 : i ≤ 600 := by omega
        (refine hkG ?_)
        (refine hkD ?_)
        refine ⟨_, htk, hul, ?_⟩
        (refine hkG ?_)
        refine And.intro (by show (i + 1) * 24 ≤ 70368744177664; omega) ?_
        (refine hkG ?_)
        refine ⟨(V, rows ++ [sRow n (lows o N) T V i]), hinv, (by show 602 - (rows ++ [sRow n (lows o N) T V i]).length < 602 - rows.length; simp; omega), ?_⟩
        show StLe _ _ (sbSt n o N V (rows ++ [sRow n (lows o N) T V i]))
        unfold sbSt
        rw [List.length_append, List.length_singleton, ← hi, hV]
        ((refine ⟨⟨rfl,rfl⟩,?_,?_⟩<;>((repeat'(first|exact TLe.nil|exact HLe.nil _|refine TLe.cons ?_ ?_|refine HLe.cons ?_ ?_|exact KLe.ptr rfl|exact KLe.sl rfl (.inl rfl)|exact KLe.csl rfl|exact KLe.mpr rfl|refine KLe.pe ?_|refine KLe.tup ?_|refine KLe.agg ?_|refine BLe.pe ?_|refine BLe.mpe ?_|refine BLe.ghe ?_|refine BLe.axe ?_ ?_|refine BLe.mx ?_|exact KLeL.nil|refine KLe.fn ?_ ?_|refine KLeL.cons ?_ ?_|exact KLe.und _|exact BLe.dead _))<;>(try with_reducible rfl)))<;>(first|rfl|((refine congrArg (PV.int IntKind.i64) ?_)<;>(first|rfl|omega|(rw [add64 (by omega) (by omega)];omega)|(rw [sub64 (by omega) (by omega)];omega)))|skip))
        ·exact congrArg (PV.int .i64) (by show intAr .add .i64 (i : Int) 1 = ((i + 1 : Nat) : Int); rw [add64 (by omega) (by omega)]; omega)
        ·rw [hrow, ← hV, List.map_append]; rfl
       ·have hclt : c < N := by omega
        obtain ⟨_, lb, _, _⟩ := low_spec (o := o) (n := (N : Int)) hpm (k := c) (by omega)
        have hPS := PS c hclt
        have hla := sNext_asc n hn.first T i (lowOf o N c)
        have hTc := Pok c hcN
        obtain ⟨r1, hr1⟩ := Ppre c 0 (by omega)
        rw [P0, Nat.zero_add] at hr1
        have hPl : T.length ≤ (P c).length := by rw [hr1]; simp
        obtain ⟨r2, hr2⟩ := Ppre (N - (c + 1)) (c + 1) (by omega)
        rw [show c + 1 + (N - (c + 1)) = N by omega, ← hV] at hr2
        have hfc : f c = rowI (sNum V (sNext n T i (lowOf o N c))) := by rw [hf]
        have hgb : (upto N N (fun c => rowE (lowOf o N c)) [PV.int .u8 0])[0 + (c : Int).toNat]? = some (rowE (lowOf o N c)) := by
         rw [show 0 + (c : Int).toNat = c by omega, upto_get hclt, if_pos hclt]
        have hgr : (upto N c f [i64 0])[0 + (c : Int).toNat]? = some [i64 0] := by
         rw [show 0 + (c : Int).toNat = c by omega, upto_get hclt, if_neg (by omega)]
        have hbg := begin_fn n hn (lowOf o N c) lb
        have hsz := hn.size
        have hbd : ∀ p ∈ sNext n T i (lowOf o N c), 0 ≤ p ∧ p < 65536 := fun p hp => by have := hla.2 p hp; omega
        have hbT : ∀ l ∈ P c, ∀ p ∈ l, 0 ≤ p ∧ p < 65536 := fun l hl p hp => by have := (hTc l hl).1.2 p hp; omega
        have hkey := key_fn (sNext n T i (lowOf o N c)) (by have := hla.len; omega) hbd
        have hmf := mfindS hbd (P c) 1 0 hbT
        have hms := mputS hbd (i64 ((P c).length + 1 : Nat)) (P c) 1 hbT
        have htg := ntag_fn n hn (sNext n T i (lowOf o N c)) hla
        have hgo : i ≠ 0 → PF Tryz.prog 121 [n.pv, .isl 1 (ints (T.getD (i - 1) [])) none, .int .u8 (lowOf o N c)] (.isl 1 (ints (sNext n T i (lowOf o N c))) none) := fun h0 => by
         have hT : Asc n.sets.length (T.getD (i - 1) []) := by
          have hit : i - 1 < T.length := by omega
          rw [List.getD_eq_getElem?_getD, List.getElem?_eq_getElem hit]
          exact (h1 _ (List.getElem_mem hit)).1
         have := go_fn n hn (T.getD (i - 1) []) hT (lowOf o N c) lb
         unfold sNext
         rw [if_neg h0]; exact this
        have hgp : i ≠ 0 → ([nilSl] :: (P c).map rowLs)[0 + (i : Int).toNat]? = some (rowLs (T.getD (i - 1) [])) := fun h0 => by
         have hit : i - 1 < T.length := by omega
         rw [show 0 + (i : Int).toNat = (i - 1) + 1 by omega, List.getElem?_cons_succ, List.getElem?_map, hr1, List.getElem?_append_left hit, List.getD_eq_getElem?_getD, List.getElem?_eq_getElem hit]
         rfl
        have hbg : i = 0 → PF Tryz.prog 120 [n.pv, .int .u8 (lowOf o N c)] (.isl 1 (ints (sNext n T i (lowOf o N c))) none) := fun h0 => by
         unfold sNext
         rw [if_pos h0]; exact hbg
        have hil2 : (ints (n.emp :: (P c).map n.tag)).length = (P c).length + 1 := by rw [ints_len]; simp
        have hpl2 : ([nilSl] :: (P c).map rowLs).length = (P c).length + 1 := by simp
        generalize hl : sNext n T i (lowOf o N c) = l at *
        clear hf PS Ppre Pok
        by_cases h0 : i = 0
        case' pos =>
         have hbg := hbg h0
         (refine hkG ?_)
         (refine hkD ?_)
         refine ex_get hgb ?_
         (refine hkG ?_)
         (refine hkD ?_)
         refine vcall_pf hbg rfl rfl ?_
         (refine hkG ?_)
        case' neg =>
         have hgo := hgo h0
         have hgp := hgp h0
         (refine hkG ?_)
         (refine hkD ?_)
         refine ex_get hgb ?_
         (refine hkG ?_)
         (refine hkD ?_)
         refine ex_get hgp ?_
         (refine hkG ?_)
         refine vcall_pf hgo rfl rfl ?_
         (refine hkG ?_)
        all_goals
         refine ex_get hgr ?_
         (refine hkG ?_)
         by_cases hl0 : l = []
         ·have hz : (ints l).length = 0 := by rw [hl0]; rfl
          have hP1 : P (c + 1) = P c := by rw [hPS, hl0]; exact if_pos rfl
          have hf1 : f c = [i64 (-1)] := by rw [hfc, hl0]; rfl
          (refine hkG ?_)
          (refine hkD ?_)
          refine ⟨c + 1, ⟨hclt, by rw [hP1]; exact hcl⟩, (show N - (c + 1) < N - c by omega), ?_⟩
          show StLe _ _ ⟨[_, _, _, _, _, (8, .sl 6 1 0 ((P (c + 1)).length + 1) none), _, _, _, _, _], [_, _, .pr 1 (ints (n.emp :: (P (c + 1)).map n.tag)), .ax 256 _ [_, _, .sl 2 1 0 ((P (c + 1)).length + 1) none], _, .mp false [.str] (entsS (P (c + 1))), .pr 1 ([nilSl] :: (P (c + 1)).map rowLs), _, .pr 1 (upto N (c + 1) f [i64 0])]⟩
          rw [hP1]
          ((refine ⟨⟨rfl,rfl⟩,?_,?_⟩<;>((repeat'(first|exact TLe.nil|exact HLe.nil _|refine TLe.cons ?_ ?_|refine HLe.cons ?_ ?_|exact KLe.ptr rfl|exact KLe.sl rfl (.inl rfl)|exact KLe.csl rfl|exact KLe.mpr rfl|refine KLe.pe ?_|refine KLe.tup ?_|refine KLe.agg ?_|refine BLe.pe ?_|refine BLe.mpe ?_|refine BLe.ghe ?_|refine BLe.axe ?_ ?_|refine BLe.mx ?_|exact KLeL.nil|refine KLe.fn ?_ ?_|refine KLeL.cons ?_ ?_|exact KLe.und _|exact BLe.dead _))<;>(try with_reducible rfl)))<;>(first|rfl|((refine congrArg (PV.int IntKind.i64) ?_)<;>(first|rfl|omega|(rw [add64 (by omega) (by omega)];omega)|(rw [sub64 (by omega) (by omega)];omega)))|skip))
          ·rw [← upto_put hclt, hf1, show 0 + (c : Int).toNat = c by omega]; rfl
         ·have hlp := List.length_pos_iff.2 hl0
          have hll := ints_len l
          have hgr2 : ((upto N c f [i64 0]).set (0 + (c : Int).toNat) [i64 (-1)])[0 + (c : Int).toNat]? = some [i64 (-1)] := by
           rw [show 0 + (c : Int).toNat = c by omega, List.getElem?_set_self (by rw [upto_len]; exact hclt)]
          have hsn : sNum V l = (ix V l : Int) + 1 := if_neg hl0
          by_cases hm : l ∈ P c
          ·have hP1 : P (c + 1) = P c := by rw [hPS]; exact (if_neg hl0).trans (if_pos hm)
           have hix := ix_lt hm
           have hiV : ix V l = ix (P c) l := by rw [hr2, hP1]; exact ix_app hm
           have hf1 : f c = [i64 (1 + ix (P c) l : Nat)] := by
            rw [hfc, hsn, hiV]
            show [i64 _] = _
            congr 2; omega
           rw [if_pos hm] at hmf
           (refine hkG ?_)
           (refine hkD ?_)
           refine vcall_pf hkey rfl rfl ?_
           (refine hkG ?_)
           refine And.intro ⟨trivial, trivial⟩ ?_
           conv => whnf
           refine ⟨_, hmf, ?_⟩
           (refine hkG ?_)
           (refine hkD ?_)
           refine ex_get hgr2 ?_
           (refine hkG ?_)
           refine ⟨c + 1, ⟨hclt, by rw [hP1]; exact hcl⟩, (show N - (c + 1) < N - c by omega), ?_⟩
           show StLe _ _ ⟨[_, _, _, _, _, (8, .sl 6 1 0 ((P (c + 1)).length + 1) none), _, _, _, _, _], [_, _, .pr 1 (ints (n.emp :: (P (c + 1)).map n.tag)), .ax 256 _ [_, _, .sl 2 1 0 ((P (c + 1)).length + 1) none], _, .mp false [.str] (entsS (P (c + 1))), .pr 1 ([nilSl] :: (P (c + 1)).map rowLs), _, .pr 1 (upto N (c + 1) f [i64 0])]⟩
           rw [hP1]
           ((refine ⟨⟨rfl,rfl⟩,?_,?_⟩<;>((repeat'(first|exact TLe.nil|exact HLe.nil _|refine TLe.cons ?_ ?_|refine HLe.cons ?_ ?_|exact KLe.ptr rfl|exact KLe.sl rfl (.inl rfl)|exact KLe.csl rfl|exact KLe.mpr rfl|refine KLe.pe ?_|refine KLe.tup ?_|refine KLe.agg ?_|refine BLe.pe ?_|refine BLe.mpe ?_|refine BLe.ghe ?_|refine BLe.axe ?_ ?_|refine BLe.mx ?_|exact KLeL.nil|refine KLe.fn ?_ ?_|refine KLeL.cons ?_ ?_|exact KLe.und _|exact BLe.dead _))<;>(try with_reducible rfl)))<;>(first|rfl|((refine congrArg (PV.int IntKind.i64) ?_)<;>(first|rfl|omega|(rw [add64 (by omega) (by omega)];omega)|(rw [sub64 (by omega) (by omega)];omega)))|skip))
           ·rw [← upto_put hclt, hf1, show 0 + (c : Int).toNat = c by omega]
            exact List.set_set _
          ·have hP1 : P (c + 1) = P c ++ [l] := by rw [hPS]; exact (if_neg hl0).trans (if_neg hm)
           have hiV : ix V l = (P c).length := by rw [hr2, hP1, ix_app (List.mem_append_right _ (List.mem_singleton.2 rfl)), ix_new hm]
           have hf1 : f c = [i64 ((P c).length + 1 : Nat)] := by
            rw [hfc, hsn, hiV]
            show [i64 _] = _
            congr 2
           rw [if_neg hm] at hmf
           have hms := hms hm
           (refine hkG ?_)
           (refine hkD ?_)
           refine vcall_pf hkey rfl rfl ?_
           (refine hkG ?_)
           refine And.intro ⟨trivial, trivial⟩ ?_
           conv => whnf
           refine ⟨_, hmf, ?_⟩
           (refine hkG ?_)
           refine vcall_pf hkey rfl rfl ?_
           (refine hkG ?_)
           refine And.intro ⟨trivial, trivial⟩ ?_
           (refine hkG ?_)
           refine And.intro (by show ((P c).length + 1 + 1) * 24 ≤ 70368744177664; omega) ?_
           (refine hkG ?_)
           refine vcall_pf htg rfl rfl ?_
           (refine hkG ?_)
           refine And.intro (by show ((P c).length + 1 + 1) * 8 ≤ 70368744177664; omega) ?_
           (refine hkG ?_)
           by_cases h600 : 600 ≤ (P c).length + 1
           ·have hRe : R = none := by
             have hsr : sRound n (lows o N) T rows.length = V := by rw [hV, PL, ← hi]; rfl
             have hVl : V.length = (P c).length + 1 + r2.length := by rw [hr2, hP1, List.length_append, List.length_append, List.length_singleton]
             rw [← h4, show 602 - i = (601 - i) + 1 by omega, sLoop, if_pos (by omega), hsr, if_pos (by omega)]
            rw [hRe] at hsub
            (refine hkD ?_)
            refine ⟨_, [_, _, _], ax_whole (rest := [_, _, _]), ⟨rfl, rfl, List.length_replicate, rfl, Nat.le_of_ble_eq_true rfl⟩, ?_⟩
            (refine hkG ?_)
            refine ⟨_, [], ⟨rfl, rfl⟩, ⟨rfl, rfl⟩, ?_, HLe.nil _⟩
            rw [← hsub]
            exact KLe.tup (KLeL.cons (KLe.p sb_zero) (KLeL.cons (KLe.pe rfl) KLeL.nil))
           ·(refine hkD ?_)
            refine ex_get hgr2 ?_
            (refine hkG ?_)
            refine ⟨c + 1, ⟨hclt, by rw [hP1]; simp; omega⟩, (show N - (c + 1) < N - c by omega), ?_⟩
            show StLe _ _ ⟨[_, _, _, _, _, (8, .sl 6 1 0 ((P (c + 1)).length + 1) none), _, _, _, _, _], [_, _, .pr 1 (ints (n.emp :: (P (c + 1)).map n.tag)), .ax 256 _ [_, _, .sl 2 1 0 ((P (c + 1)).length + 1) none], _, .mp false [.str] (entsS (P (c + 1))), .pr 1 ([nilSl] :: (P (c + 1)).map rowLs), _, .pr 1 (upto N (c + 1) f [i64 0])]⟩
            rw [hP1, List.length_append, List.length_singleton]
            ((refine ⟨⟨rfl,rfl⟩,?_,?_⟩<;>((repeat'(first|exact TLe.nil|exact HLe.nil _|refine TLe.cons ?_ ?_|refine HLe.cons ?_ ?_|exact KLe.ptr rfl|exact KLe.sl rfl (.inl rfl)|exact KLe.csl rfl|exact KLe.mpr rfl|refine KLe.pe ?_|refine KLe.tup ?_|refine KLe.agg ?_|refine BLe.pe ?_|refine BLe.mpe ?_|refine BLe.ghe ?_|refine BLe.axe ?_ ?_|refine BLe.mx ?_|exact KLeL.nil|refine KLe.fn ?_ ?_|refine KLeL.cons ?_ ?_|exact KLe.und _|exact BLe.dead _))<;>(try with_reducible rfl)))<;>(first|rfl|((refine congrArg (PV.int IntKind.i64) ?_)<;>(first|rfl|omega|(rw [add64 (by omega) (by omega)];omega)|(rw [sub64 (by omega) (by omega)];omega)))|skip))
            ·simp [ints, dropN]; rfl
            ·refine hms.trans ?_
             rw [Nat.add_comm]; exact (entsFrom_app kpS (fun i => i64 i) 1 (P c) l).symm
            ·simp [dropN]; rfl
            ·rw [← upto_put hclt, hf1, show 0 + (c : Int).toNat = c by omega]
             exact List.set_set _
   ·have hlt : k < N := by omega
    obtain ⟨l1, l2, l3, l4⟩ := hlow k hlt
    have hfk := first_fn o ho N k
    rw [l1] at hfk
    have hw : IntKind.u8.wrap (lowOf o N k : Int) = (lowOf o N k : Nat) := by rw [wrap_u8]; omega
    have hgk : (upto N k (fun c => rowE (lowOf o N c)) [PV.int .u8 0])[0 + (k : Int).toNat]? = some [.int .u8 0] := by
     rw [show 0 + (k : Int).toNat = k by omega, upto_get hlt, if_neg (by omega)]
    (refine hkG ?_)
    (refine hkD ?_)
    refine vcall_pf hfk rfl rfl ?_
    (refine hkG ?_)
    refine ex_get hgk ?_
    (refine hkG ?_)
    refine ⟨k + 1, hlt, (show N - (k + 1) < N - k by omega), ?_⟩
    ((refine ⟨⟨rfl,rfl⟩,?_,?_⟩<;>((repeat'(first|exact TLe.nil|exact HLe.nil _|refine TLe.cons ?_ ?_|refine HLe.cons ?_ ?_|exact KLe.ptr rfl|exact KLe.sl rfl (.inl rfl)|exact KLe.csl rfl|exact KLe.mpr rfl|refine KLe.pe ?_|refine KLe.tup ?_|refine KLe.agg ?_|refine BLe.pe ?_|refine BLe.mpe ?_|refine BLe.ghe ?_|refine BLe.axe ?_ ?_|refine BLe.mx ?_|exact KLeL.nil|refine KLe.fn ?_ ?_|refine KLeL.cons ?_ ?_|exact KLe.und _|exact BLe.dead _))<;>(try with_reducible rfl)))<;>(first|rfl|((refine congrArg (PV.int IntKind.i64) ?_)<;>(first|rfl|omega|(rw [add64 (by omega) (by omega)];omega)|(rw [sub64 (by omega) (by omega)];omega)))|skip))
    show (upto N k (fun c => rowE (lowOf o N c)) [.int .u8 0]).set (0 + (k : Int).toNat) [PV.int .u8 (IntKind.u8.wrap (lowOf o N k : Int))] = _
    rw [hw, show 0 + (k : Int).toNat = k by omega]
    exact upto_put hlt
end Hk
namespace Hk
open Go Go.Proofs
set_option maxRecDepth 100000
def rf21 : RFn := ⟨1, 15, [.cell 2 259 true], .seq (.ops [D 1 (.boxx 256 0 259),
D 2 (.allocx 256 (.int .u8 0) [(.int .i64 0), (.isl 0 [] (some 0)), (.isl 0 [] (some 0))])])
(.seq (.ops [D 3 (.fadr 1 0),
D 4 (.fadr 3 0),
D 5 (.load 4 256 true),
D 6 (.fadr 1 0),
D 7 (.fadr 6 256),
D 8 (.load 7 1 false),
D 9 (.buildx 256 (.int .u8 0) [(.int .i64 0)] [(0, 256, 5), (256, 1, 8)]),
D 10 (.fadr 1 257),
D 11 (.load 10 1 false),
D 12 (.fadr 1 258),
D 13 (.load 12 1 false),
D 14 (.buildx 256 (.int .u8 0) [(.int .i64 0), (.isl 0 [] (some 0)), (.isl 0 [] (some 0))] [(0, 257, 9), (257, 1, 11), (258, 1, 13)]),
N (.store 2 14 259)])
(.ret))⟩
theorem rf21_eq : cfnAt Tryz.prog 21 [] = some rf21 := by kernel_rfl
def rf61 : RFn := ⟨1, 40, [.tmp 2], .seq (.ops [D 1 (.boxx 256 0 259),
D 2 (.mov FF)])
(.seq (.seq (.ops [D 4 (.fadr 1 257),
D 5 (.load 4 1 false),
D 6 (.len 5),
D 7 (.bin .gtr 6 (I 40)),
D 8 (.mov 7),
Y 8 9 (.fadr 1 257),
Y 8 10 (.load 9 1 false),
Y 8 11 (.len 10),
Y 8 12 (.bin .leq 11 (I 600)),
D 13 (.pick 8 12 FF),
D 14 (.mov 13),
Z 14 15 (.fadr 1 257),
Z 14 16 (.load 15 1 false),
Z 14 17 (.len 16),
Z 14 18 (.bin .gtr 17 (I 650)),
D 19 (.pick 14 TT 18),
D 20 (.mov 19),
Z 20 21 (.fadr 1 258),
Z 20 22 (.load 21 1 false),
Z 20 23 (.len 22),
Z 20 24 (.bin .gtr 23 (I 700)),
D 25 (.pick 20 TT 24)])
(.cond 25 (.seq (.ops [D 2 (.mov TT)])
(.ret)) (.skip)))
(.seq (.seq (.ops [D 3 (.mov (I 0))])
(.block 0 (.loop [1, 3] (.seq (.seq (.ops [D 26 (.mov 3),
D 27 (.fadr 1 257),
D 28 (.load 27 1 false),
D 29 (.len 28),
D 30 (.bin .lss 26 29)])
(.cond 30 (.skip) (.exit 0)))
(.seq (.block 1 (.seq (.ops [D 33 (.fadr 1 257),
D 34 (.load 33 1 false),
D 35 (.mov 3),
D 36 (.idxS 34 35 1),
D 37 (.load 36 1 false),
D 38 (.len 37),
D 39 (.bin .gtr 38 (I 300))])
(.cond 39 (.seq (.ops [D 2 (.mov TT)])
(.ret)) (.skip))))
(.ops [D 31 (.mov 3),
D 32 (.bin .add 31 (I 1)),
D 3 (.mov 32)]))))))
(.seq (.ops [D 2 (.mov FF)])
(.ret))))⟩
theorem rf61_eq : cfnAt Tryz.prog 61 [[1, 3]] = some rf61 := by kernel_rfl
def rf72 : RFn := ⟨1, 7, [.cell 2 8 true], .seq (.ops [D 2 (.alloc false [(.int .i64 0), (.int .u64 0), (.int .u64 0), (.int .u64 0), (.int .u64 0), (.isl 0 [] (some 0)), (.int .i64 0), (.int .i64 0)])])
(.seq (.ops [D 3 (.mov 0),
D 4 (.mov 0),
D 5 (.call 74 [3, 4]),
D 6 (.build [(.int .i64 0), (.int .u64 0), (.int .u64 0), (.int .u64 0), (.int .u64 0), (.isl 0 [] (some 0)), (.int .i64 0), (.int .i64 0)] [(0, 1, (I 1)), (1, 4, 5)]),
N (.store 2 6 8)])
(.ret))⟩
theorem rf72_eq : cfnAt Tryz.prog 72 [] = some rf72 := by kernel_rfl
def rf73 : RFn := ⟨1, 18, [.cell 2 259 true], .seq (.ops [D 2 (.allocx 256 (.int .u8 0) [(.int .i64 0), (.isl 0 [] (some 0)), (.isl 0 [] (some 0))])])
(.seq (.ops [D 8 (.mov 0),
D 9 (.call 44 [8]),
D 7 (.mov 9),
D 10 (.ext 7 0),
D 11 (.ext 7 1),
D 3 (.alloc false [(.isl 0 [] (some 0)), (.isl 0 [] (some 0)), (.isl 0 [] (some 0)), (.isl 0 [] (some 0)), (.isl 0 [] (some 0)), (.int .i64 0)]),
N (.store 3 10 6),
D 4 (.mov 11)])
(.seq (.ops [D 13 (.load 3 6 true),
D 14 (.call 45 [13]),
D 12 (.mov 14),
D 15 (.ext 12 0),
D 16 (.ext 12 1),
D 5 (.allocx 256 (.int .u8 0) [(.int .i64 0), (.isl 0 [] (some 0)), (.isl 0 [] (some 0))]),
N (.store 5 15 259),
D 6 (.mov 16)])
(.seq (.ops [D 17 (.load 5 259 true),
N (.store 2 17 259)])
(.ret))))⟩
theorem rf73_eq : cfnAt Tryz.prog 73 [] = some rf73 := by kernel_rfl
def rf19 : RFn := ⟨2, 23, [.tmp 4], .seq (.ops [D 2 (.boxx 256 0 259),
D 3 (.boxx 256 1 259),
D 4 (.mov FF)])
(.seq (.ops [D 5 (.load 2 259 true),
D 6 (.call 61 [5]),
D 7 (.mov 6),
Z 7 8 (.load 3 259 true),
Z 7 9 (.call 61 [8]),
D 10 (.pick 7 TT 9),
D 11 (.mov 10),
Z 11 12 (.fadr 2 257),
Z 11 13 (.load 12 1 false),
Z 11 14 (.len 13),
Z 11 15 (.bin .gtr 14 (I 12)),
D 16 (.pick 11 TT 15),
D 17 (.mov 16),
Z 17 18 (.fadr 3 257),
Z 17 19 (.load 18 1 false),
Z 17 20 (.len 19),
Z 17 21 (.bin .gtr 20 (I 12)),
D 22 (.pick 17 TT 21),
D 4 (.mov 22)])
(.ret))⟩
theorem rf19_eq : cfnAt Tryz.prog 19 [] = some rf19 := by kernel_rfl
def rf18 : RFn := ⟨0, 74, [.tmp 0], .seq (.ops [D 0 (.mov FF)])
(.seq (.ops [D 11 (.call 72 [(I 98)]),
D 12 (.bslice 8 [11]),
D 13 (.build [(.int .i64 0), (.int .u64 0), (.int .u64 0), (.int .u64 0), (.int .u64 0), (.isl 0 [] (some 0)), (.int .i64 0), (.int .i64 0)] [(0, 1, (I 4)), (5, 1, 12), (6, 1, (I 1)), (7, 1, (I (-1)))]),
D 1 (.alloc false [(.int .i64 0), (.int .u64 0), (.int .u64 0), (.int .u64 0), (.int .u64 0), (.isl 0 [] (some 0)), (.int .i64 0), (.int .i64 0)]),
N (.store 1 13 8)])
(.seq (.draw (.take (D 15 (.load 1 8 true))<|
.alt (D 14 (.call 72 [(I 97)])) false (.alt (D 16 (.bslice 8 [14, 15])) false (.take (D 17 (.build [(.int .i64 0), (.int .u64 0), (.int .u64 0), (.int .u64 0), (.int .u64 0), (.isl 0 [] (some 0)), (.int .i64 0), (.int .i64 0)] [(0, 1, (I 3)), (5, 1, 16)]))<|
.alt (D 18 (.bslice 8 [17])) false (.alt (D 19 (.call 73 [18])) false (.alt (D 2 (.allocx 256 (.int .u8 0) [(.int .i64 0), (.isl 0 [] (some 0)), (.isl 0 [] (some 0))])) false (.alt (N (.store 2 19 259)) true (.done)
(.noalt))
(.noalt))
(.alt (D 2 (.allocx 256 (.int .u8 0) [(.int .i64 0), (.isl 0 [] (some 0)), (.isl 0 [] (some 0))])) false (.alt (D 19 (.call 73 [18])) false (.alt (N (.store 2 19 259)) true (.done)
(.noalt))
(.noalt))
(.noalt)))
(.alt (D 2 (.allocx 256 (.int .u8 0) [(.int .i64 0), (.isl 0 [] (some 0)), (.isl 0 [] (some 0))])) false (.alt (D 18 (.bslice 8 [17])) false (.alt (D 19 (.call 73 [18])) false (.alt (N (.store 2 19 259)) true (.done)
(.noalt))
(.noalt))
(.noalt))
(.noalt)))
(.alt (D 2 (.allocx 256 (.int .u8 0) [(.int .i64 0), (.isl 0 [] (some 0)), (.isl 0 [] (some 0))])) false (.alt (D 16 (.bslice 8 [14, 15])) false (.take (D 17 (.build [(.int .i64 0), (.int .u64 0), (.int .u64 0), (.int .u64 0), (.int .u64 0), (.isl 0 [] (some 0)), (.int .i64 0), (.int .i64 0)] [(0, 1, (I 3)), (5, 1, 16)]))<|
.alt (D 18 (.bslice 8 [17])) false (.alt (D 19 (.call 73 [18])) false (.alt (N (.store 2 19 259)) true (.done)
(.noalt))
(.noalt))
(.noalt))
(.noalt))
(.noalt)))
(.alt (D 2 (.allocx 256 (.int .u8 0) [(.int .i64 0), (.isl 0 [] (some 0)), (.isl 0 [] (some 0))])) false (.alt (D 14 (.call 72 [(I 97)])) false (.alt (D 16 (.bslice 8 [14, 15])) false (.take (D 17 (.build [(.int .i64 0), (.int .u64 0), (.int .u64 0), (.int .u64 0), (.int .u64 0), (.isl 0 [] (some 0)), (.int .i64 0), (.int .i64 0)] [(0, 1, (I 3)), (5, 1, 16)]))<|
.alt (D 18 (.bslice 8 [17])) false (.alt (D 19 (.call 73 [18])) false (.alt (N (.store 2 19 259)) true (.done)
(.noalt))
(.noalt))
(.noalt))
(.noalt))
(.noalt))
(.noalt))))
(.seq (.ops [D 20 (.call 72 [(I 98)]),
D 21 (.call 72 [(I 99)]),
D 22 (.bslice 8 [20, 21]),
D 23 (.build [(.int .i64 0), (.int .u64 0), (.int .u64 0), (.int .u64 0), (.int .u64 0), (.isl 0 [] (some 0)), (.int .i64 0), (.int .i64 0)] [(0, 1, (I 3)), (5, 1, 22)]),
D 24 (.bslice 8 [23]),
D 25 (.call 73 [24]),
D 3 (.allocx 256 (.int .u8 0) [(.int .i64 0), (.isl 0 [] (some 0)), (.isl 0 [] (some 0))]),
N (.store 3 25 259)])
(.seq (.ops [D 27 (.load 2 259 true),
D 28 (.load 3 259 true),
D 29 (.call 24 [27, 28]),
D 26 (.mov 29),
D 30 (.ext 26 0),
D 31 (.ext 26 1),
D 4 (.mov 30),
D 5 (.mov 31)])
(.seq (.ops [D 33 (.load 2 259 true),
D 34 (.load 3 259 true),
D 35 (.call 25 [33, 34]),
D 32 (.mov 35),
D 36 (.ext 32 0),
D 37 (.ext 32 1),
D 6 (.mov 36),
D 7 (.mov 37)])
(.seq (.ops [D 39 (.call 72 [(I 97)]),
D 40 (.call 72 [(I 97)]),
D 41 (.call 72 [(I 98)]),
D 42 (.bslice 8 [40, 41]),
D 43 (.build [(.int .i64 0), (.int .u64 0), (.int .u64 0), (.int .u64 0), (.int .u64 0), (.isl 0 [] (some 0)), (.int .i64 0), (.int .i64 0)] [(0, 1, (I 2)), (5, 1, 42)]),
D 44 (.bslice 8 [39, 43]),
D 45 (.call 73 [44]),
D 46 (.call 74 [(I 98), (I 98)]),
D 47 (.call 20 [45, (I 0), 46]),
D 38 (.mov 47),
D 48 (.ext 38 0),
D 49 (.ext 38 1),
D 50 (.ext 38 2),
D 8 (.mov 48),
D 9 (.mov 49),
D 10 (.mov 50)])
(.seq (.ops [D 51 (.mov 5),
D 52 (.mov 51),
Y 52 53 (.mov 4),
Y 52 54 (.bin .eql 53 (.c (.str [98]))),
D 55 (.pick 52 54 FF),
D 56 (.mov 55),
Y 56 57 (.mov 7),
D 58 (.pick 56 57 FF),
D 59 (.mov 58),
Y 59 60 (.mov 6),
Y 59 61 (.bin .eql 60 (.c (.str [97]))),
D 62 (.pick 59 61 FF),
D 63 (.mov 62),
Y 63 64 (.mov 10),
D 65 (.pick 63 64 FF),
D 66 (.mov 65),
Y 66 67 (.mov 8),
Y 66 68 (.bin .eql 67 (.c (.str [97]))),
D 69 (.pick 66 68 FF),
D 70 (.mov 69),
Y 70 71 (.mov 9),
Y 70 72 (.bin .eql 71 (B 98)),
D 73 (.pick 70 72 FF),
D 0 (.mov 73)])
(.ret))))))))⟩
theorem rf18_eq : cfnAt Tryz.prog 18 [] = some rf18 := by kernel_rfl
def rf5 : RFn := ⟨2, 64, [.tmp 4], .seq (.ops [D 2 (.boxx 256 0 259),
D 3 (.boxx 256 1 259),
D 4 (.mov FF)])
(.seq (.seq (.ops [D 8 (.call 18 []),
D 9 (.un .not 8)])
(.cond 9 (.seq (.ops [D 4 (.mov FF)])
(.ret)) (.skip)))
(.seq (.seq (.ops [D 10 (.load 2 259 true),
D 11 (.load 3 259 true),
D 12 (.call 19 [10, 11])])
(.cond 12 (.seq (.ops [D 4 (.mov TT)])
(.ret)) (.skip)))
(.seq (.draw (.take (D 13 (.load 2 259 true))<|
.take (D 15 (.load 3 259 true))<|
.alt (D 14 (.call 21 [13])) false (.alt (D 16 (.call 21 [15])) true (.alt (D 17 (.call 28 [14, 16])) true (.take (D 5 (.mov 17))<|
.done)
(.noalt))
(.noalt))
(.noalt)))
(.seq (.seq (.ops [D 18 (.load 2 259 true),
D 19 (.call 22 [18]),
D 20 (.un .not 19),
D 21 (.mov 20),
Z 21 22 (.load 3 259 true),
Z 21 23 (.call 22 [22]),
Z 21 24 (.un .not 23),
D 25 (.pick 21 TT 24)])
(.cond 25 (.seq (.ops [D 26 (.mov 5),
D 27 (.len 26),
D 28 (.bin .eql 27 (I 0)),
D 4 (.mov 28)])
(.ret)) (.skip)))
(.seq (.ops [D 29 (.load 2 259 true),
D 30 (.load 3 259 true),
D 31 (.call 29 [29, 30]),
D 6 (.mov 31)])
(.seq (.seq (.ops [D 32 (.mov 5),
D 33 (.len 32),
D 34 (.mov 6),
D 35 (.len 34),
D 36 (.bin .neq 33 35)])
(.cond 36 (.seq (.ops [D 4 (.mov FF)])
(.ret)) (.skip)))
(.seq (.seq (.ops [D 7 (.mov (I 0))])
(.block 0 (.loop [5, 6, 7] (.seq (.seq (.ops [D 37 (.mov 7),
D 38 (.mov 5),
D 39 (.len 38),
D 40 (.bin .lss 37 39)])
(.cond 40 (.skip) (.exit 0)))
(.seq (.block 1 (.seq (.draw (.take (D 43 (.mov 5))<|
.take (D 44 (.mov 7))<|
.take (D 45 (.idxS 43 44 3))<|
.take (D 46 (.load 45 3 true))<|
.take (D 47 (.mov 6))<|
.take (D 48 (.mov 7))<|
.take (D 49 (.idxS 47 48 3))<|
.take (D 50 (.fadr 49 0))<|
.take (D 51 (.load 50 1 false))<|
.take (D 52 (.mov 6))<|
.take (D 53 (.mov 7))<|
.take (D 54 (.idxS 52 53 3))<|
.take (D 55 (.fadr 54 1))<|
.take (D 56 (.load 55 1 false))<|
.take (D 57 (.mov 6))<|
.take (D 58 (.mov 7))<|
.take (D 59 (.idxS 57 58 3))<|
.take (D 60 (.fadr 59 2))<|
.take (D 61 (.load 60 1 false))<|
.take (D 62 (.build [(.int .i64 0), (.int .i64 0), (.str [])] [(0, 1, 51), (1, 1, 56), (2, 1, 61)]))<|
.take (D 63 (.cmpa true [(.int .i64), (.int .i64), .str] 46 62))<|
.done))
(.cond 63 (.seq (.ops [D 4 (.mov FF)])
(.ret)) (.skip))))
(.ops [D 41 (.mov 7),
D 42 (.bin .add 41 (I 1)),
D 7 (.mov 42)]))))))
(.seq (.ops [D 4 (.mov TT)])
(.ret)))))))))⟩
theorem rf5_eq : cfnAt Tryz.prog 5 [[5, 6, 7]] = some rf5 := by kernel_rfl
def rf4 : RFn := ⟨2, 118, [.tmp 4], .seq (.ops [D 2 (.boxx 256 0 259),
D 3 (.boxx 256 1 259),
D 4 (.mov FF)])
(.seq (.seq (.ops [D 17 (.call 18 []),
D 18 (.un .not 17)])
(.cond 18 (.seq (.ops [D 4 (.mov FF)])
(.ret)) (.skip)))
(.seq (.seq (.ops [D 19 (.load 2 259 true),
D 20 (.load 3 259 true),
D 21 (.call 19 [19, 20])])
(.cond 21 (.seq (.ops [D 4 (.mov TT)])
(.ret)) (.skip)))
(.seq (.draw (.take (D 23 (.load 2 259 true))<|
.take (D 25 (.load 3 259 true))<|
.alt (D 24 (.call 21 [23])) false (.alt (D 26 (.call 21 [25])) true (.alt (D 27 (.call 24 [24, 26])) true (.take (D 22 (.mov 27))<|
.take (D 28 (.ext 22 0))<|
.take (D 29 (.ext 22 1))<|
.take (D 5 (.mov 28))<|
.take (D 6 (.mov 29))<|
.done)
(.noalt))
(.noalt))
(.noalt)))
(.seq (.draw (.take (D 31 (.load 2 259 true))<|
.take (D 33 (.load 3 259 true))<|
.alt (D 32 (.call 21 [31])) false (.alt (D 34 (.call 21 [33])) true (.alt (D 35 (.call 25 [32, 34])) true (.take (D 30 (.mov 35))<|
.take (D 36 (.ext 30 0))<|
.take (D 37 (.ext 30 1))<|
.take (D 7 (.mov 36))<|
.take (D 8 (.mov 37))<|
.done)
(.noalt))
(.noalt))
(.noalt)))
(.seq (.draw (.take (D 39 (.load 2 259 true))<|
.take (D 41 (.load 3 259 true))<|
.alt (D 40 (.call 21 [39])) false (.alt (D 42 (.call 21 [41])) true (.alt (D 43 (.call 26 [40, 42])) true (.take (D 38 (.mov 43))<|
.take (D 44 (.ext 38 0))<|
.take (D 45 (.ext 38 1))<|
.take (D 9 (.mov 44))<|
.take (D 10 (.mov 45))<|
.done)
(.noalt))
(.noalt))
(.noalt)))
(.seq (.seq (.ops [D 46 (.load 2 259 true),
D 47 (.call 22 [46]),
D 48 (.un .not 47),
D 49 (.mov 48),
Z 49 50 (.load 3 259 true),
Z 49 51 (.call 22 [50]),
Z 49 52 (.un .not 51),
D 53 (.pick 49 TT 52)])
(.cond 53 (.seq (.ops [D 54 (.mov 6),
D 55 (.un .not 54),
D 56 (.mov 55),
Y 56 57 (.mov 8),
Y 56 58 (.un .not 57),
D 59 (.pick 56 58 FF),
D 60 (.mov 59),
Y 60 61 (.mov 10),
Y 60 62 (.un .not 61),
D 63 (.pick 60 62 FF),
D 64 (.mov 63),
Y 64 65 (.mov 5),
Y 64 66 (.mov 7),
Y 64 67 (.bin .add 65 66),
Y 64 68 (.mov 9),
Y 64 69 (.bin .add 67 68),
Y 64 70 (.bin .eql 69 (.c (.str []))),
D 71 (.pick 64 70 FF),
D 4 (.mov 71)])
(.ret)) (.skip)))
(.seq (.ops [D 73 (.load 2 259 true),
D 74 (.load 3 259 true),
D 75 (.call 27 [73, 74, (I 0)]),
D 72 (.mov 75),
D 76 (.ext 72 0),
D 77 (.ext 72 1),
D 11 (.mov 76),
D 12 (.mov 77)])
(.seq (.ops [D 79 (.load 2 259 true),
D 80 (.load 3 259 true),
D 81 (.call 27 [79, 80, (I 1)]),
D 78 (.mov 81),
D 82 (.ext 78 0),
D 83 (.ext 78 1),
D 13 (.mov 82),
D 14 (.mov 83)])
(.seq (.ops [D 85 (.load 2 259 true),
D 86 (.load 3 259 true),
D 87 (.call 27 [85, 86, (I 2)]),
D 84 (.mov 87),
D 88 (.ext 84 0),
D 89 (.ext 84 1),
D 15 (.mov 88),
D 16 (.mov 89)])
(.seq (.ops [D 90 (.mov 5),
D 91 (.mov 11),
D 92 (.bin .eql 90 91),
D 93 (.mov 92),
Y 93 94 (.mov 6),
Y 93 95 (.mov 12),
Y 93 96 (.cmpb false 94 95),
D 97 (.pick 93 96 FF),
D 98 (.mov 97),
Y 98 99 (.mov 7),
Y 98 100 (.mov 13),
Y 98 101 (.bin .eql 99 100),
D 102 (.pick 98 101 FF),
D 103 (.mov 102),
Y 103 104 (.mov 8),
Y 103 105 (.mov 14),
Y 103 106 (.cmpb false 104 105),
D 107 (.pick 103 106 FF),
D 108 (.mov 107),
Y 108 109 (.mov 9),
Y 108 110 (.mov 15),
Y 108 111 (.bin .eql 109 110),
D 112 (.pick 108 111 FF),
D 113 (.mov 112),
Y 113 114 (.mov 10),
Y 113 115 (.mov 16),
Y 113 116 (.cmpb false 114 115),
D 117 (.pick 113 116 FF),
D 4 (.mov 117)])
(.ret)))))))))))⟩
theorem rf4_eq : cfnAt Tryz.prog 4 [] = some rf4 := by kernel_rfl
def rf3 : RFn := ⟨3, 61, [.tmp 6], .seq (.ops [D 3 (.boxx 256 0 259),
D 5 (.box true 2 4),
D 6 (.mov FF)])
(.seq (.seq (.ops [D 13 (.call 18 []),
D 14 (.un .not 13)])
(.cond 14 (.seq (.ops [D 6 (.mov FF)])
(.ret)) (.skip)))
(.seq (.seq (.ops [D 15 (.load 3 259 true),
D 16 (.load 3 259 true),
D 17 (.call 19 [15, 16])])
(.cond 17 (.seq (.ops [D 6 (.mov TT)])
(.ret)) (.skip)))
(.seq (.draw (.take (D 19 (.load 3 259 true))<|
.take (D 21 (.mov 1))<|
.take (D 22 (.load 5 4 true))<|
.alt (D 20 (.call 21 [19])) false (.alt (D 23 (.call 20 [20, 21, 22])) true (.take (D 18 (.mov 23))<|
.take (D 24 (.ext 18 0))<|
.take (D 25 (.ext 18 1))<|
.take (D 26 (.ext 18 2))<|
.take (D 7 (.mov 24))<|
.take (D 8 (.mov 25))<|
.take (D 9 (.mov 26))<|
.done)
(.noalt))
(.noalt)))
(.seq (.seq (.ops [D 27 (.load 3 259 true),
D 28 (.call 22 [27]),
D 29 (.un .not 28)])
(.cond 29 (.seq (.ops [D 30 (.mov 9),
D 31 (.un .not 30),
D 32 (.mov 31),
Y 32 33 (.mov 7),
Y 32 34 (.bin .eql 33 (.c (.str []))),
D 35 (.pick 32 34 FF),
D 36 (.mov 35),
Y 36 37 (.mov 8),
Y 36 38 (.bin .eql 37 (B 0)),
D 39 (.pick 36 38 FF),
D 6 (.mov 39)])
(.ret)) (.skip)))
(.seq (.ops [D 41 (.load 3 259 true),
D 42 (.mov 1),
D 43 (.load 5 4 true),
D 44 (.call 23 [41, 42, 43]),
D 40 (.mov 44),
D 45 (.ext 40 0),
D 46 (.ext 40 1),
D 47 (.ext 40 2),
D 10 (.mov 45),
D 11 (.mov 46),
D 12 (.mov 47)])
(.seq (.ops [D 48 (.mov 7),
D 49 (.mov 10),
D 50 (.bin .eql 48 49),
D 51 (.mov 50),
Y 51 52 (.mov 8),
Y 51 53 (.mov 11),
Y 51 54 (.bin .eql 52 53),
D 55 (.pick 51 54 FF),
D 56 (.mov 55),
Y 56 57 (.mov 9),
Y 56 58 (.mov 12),
Y 56 59 (.cmpb false 57 58),
D 60 (.pick 56 59 FF),
D 6 (.mov 60)])
(.ret)))))))⟩
theorem rf3_eq : cfnAt Tryz.prog 3 [] = some rf3 := by kernel_rfl
end Hk
namespace Hk
open Go Go.Proofs
set_option linter.unusedVariables false
set_option linter.unusedSimpArgs false
set_option maxRecDepth 100000
theorem cells_arr (arr : List PV) : cellsOf (.p (.agg arr)) = arr.map .p ++ ([] : List AV) := by simp [cellsOf]
set_option maxHeartbeats 4000000 in
theorem ofD_fn (d : Dfa) : PF Tryz.prog 21 [d.pv] d.pv := by
 refine pf_intro rf21_eq rmixed rfl ?_
 (refine hkG ?_)
 refine ⟨_, d.rest.map .p, ax_whole (rest := d.rest), ⟨rfl, clsArr_len _, rfl⟩, ?_⟩
 (refine hkG ?_)
 refine ⟨_, [], cells_arr _, ⟨rfl, clsArr_len _, rfl, Nat.le_of_ble_eq_true rfl⟩, ?_⟩
 (refine hkG ?_)
 refine ⟨_, [_], ax_whole (rest := [_]), ⟨rfl, clsArr_len _, rfl, Nat.le_of_ble_eq_true rfl⟩, ?_⟩
 (refine hkG ?_)
 refine ⟨_, [_, _, _], ax_whole (rest := [_, _, _]), ⟨rfl, rfl, clsArr_len _, rfl, Nat.le_of_ble_eq_true rfl⟩, ?_⟩
 (refine hkG ?_)
 exact ret_pf rfl rfl rfl
def greatD (d : Dfa) : Bool := (decide (40 < d.next.length) && decide (d.next.length ≤ 600)) || (decide (650 < d.next.length) || (decide (700 < d.tag.length) || d.next.any fun r => decide (300 < r.length)))
set_option maxHeartbeats 4000000 in
theorem greatD_fn (d : Dfa) : PF Tryz.prog 61 [d.pv] (.b (greatD d)) := by
 have hl1 : (d.next.map rowLs).length = d.next.length := by simp
 have hl2 := ints_len d.tag
 by_cases hpre : (40 < d.next.length ∧ d.next.length ≤ 600) ∨ 650 < d.next.length ∨ 700 < d.tag.length
 ·have hg : greatD d = true := by
   unfold greatD
   rcases hpre with ⟨h1, h2⟩ | h | h
   ·simp [h1, h2]
   ·simp [h]
   ·simp [h]
  rw [hg]
  refine pf_intro rf61_eq rmixed rfl ?_
  (refine hkG ?_)
  refine ⟨_, d.rest.map .p, ax_whole (rest := d.rest), ⟨rfl, clsArr_len _, rfl⟩, ?_⟩
  (refine hkG ?_)
  (repeat'((first|(with_reducible refine bkT ?_ ?_;focus ((simp only [cmP])<;>omega))|(with_reducible refine bkF ?_ ?_;focus ((simp only [cmP])<;>omega))|((with_reducible refine bkS (fun hc=>?_) (fun hc=>?_))<;>simp only [cmP] at hc))<;>(refine hkG ?_)))
  all_goals first | (exfalso; omega) | exact ret_pf rfl rfl rfl | trace_state
 ·have hg : greatD d = d.next.any fun r => decide (300 < r.length) := by
   unfold greatD
   have h1 : (decide (40 < d.next.length) && decide (d.next.length ≤ 600)) = false := by
    rw [← Bool.decide_and]; exact decide_eq_false (by omega)
   rw [h1, decide_eq_false (by omega), decide_eq_false (by omega)]; rfl
  rw [hg]
  refine pf_intro rf61_eq rmixed rfl ?_
  (refine hkG ?_)
  refine ⟨_, d.rest.map .p, ax_whole (rest := d.rest), ⟨rfl, clsArr_len _, rfl⟩, ?_⟩
  (refine hkG ?_)
  (repeat'((first|(with_reducible refine bkT ?_ ?_;focus ((simp only [cmP])<;>omega))|(with_reducible refine bkF ?_ ?_;focus ((simp only [cmP])<;>omega))|((with_reducible refine bkS (fun hc=>?_) (fun hc=>?_))<;>simp only [cmP] at hc))<;>(refine hkG ?_)))
  all_goals first | (exfalso; omega) | skip
  all_goals
   refine ⟨[], Nat, fun i => ⟨[(1, .ptr 0 259 0 0), (3, .p (i64 i))], [.ax 256 (clsArr d.o) (d.rest.map .p)]⟩, fun i => i ≤ d.next.length ∧ ∀ (j : Nat) (r : List Int), j < i → d.next[j]? = some r → r.length ≤ 300, fun i => d.next.length - i, ⟨0, ⟨Nat.zero_le _, fun j r h => by omega⟩, ?_⟩, fun i hi => ?_⟩
   ·(exact hkL)
   ·obtain ⟨hi, hall⟩ := hi
    have hi : i ≤ d.next.length := hi
    by_cases hie : i = d.next.length
    ·have hany : (d.next.any fun r => decide (300 < r.length)) = false := by
      rw [List.any_eq_false]
      intro r hr
      obtain ⟨j, hj⟩ := List.getElem?_of_mem hr
      have := hall j r (by have := (List.getElem?_eq_some_iff.1 hj).1; omega) hj
      simp; omega
     rw [hany]
     (refine hkG ?_)
     (refine hkD ?_)
     exact ret_pf rfl rfl rfl
    ·have hlt : i < d.next.length := by omega
     obtain ⟨r, hr⟩ : ∃ r, d.next[i]? = some r := ⟨_, List.getElem?_eq_getElem hlt⟩
     have hgr : (d.next.map rowLs)[(i : Int).toNat]? = some [.isl 1 (ints r) none] := by rw [Int.toNat_natCast, List.getElem?_map, hr]; rfl
     have hil := ints_len r
     by_cases h3 : 300 < r.length
     ·have hany : (d.next.any fun r => decide (300 < r.length)) = true := by
       rw [List.any_eq_true]; exact ⟨r, List.mem_of_getElem? hr, by simpa using h3⟩
      rw [hany]
      (refine hkG ?_)
      (refine hkD ?_)
      refine ex_get hgr ?_
      (refine hkG ?_)
      (refine hkD ?_)
      exact ret_pf rfl rfl rfl
     ·(refine hkG ?_)
      (refine hkD ?_)
      refine ex_get hgr ?_
      (refine hkG ?_)
      (refine hkD ?_)
      refine ⟨i + 1, ⟨hlt, fun j r' hj hr' => ?_⟩, by show d.next.length - (i + 1) < d.next.length - i; omega, ?_⟩
      ·by_cases e : j = i
       ·subst e; rw [hr] at hr'; cases hr'; omega
       ·exact hall j r' (by omega) hr'
      ·(exact hkL)
def great2 (a b : Dfa) : Bool := greatD a || (greatD b || (decide (12 < a.next.length) || decide (12 < b.next.length)))
set_option maxHeartbeats 4000000 in
theorem great2_fn (a b : Dfa) : PF Tryz.prog 19 [a.pv, b.pv] (.b (great2 a b)) := by
 have hga := greatD_fn a
 have hgb := greatD_fn b
 have hl1 : (a.next.map rowLs).length = a.next.length := by simp
 have hl2 : (b.next.map rowLs).length = b.next.length := by simp
 unfold great2
 generalize greatD a = ga at *
 generalize greatD b = gb at *
 refine pf_intro rf19_eq rmixed rfl ?_
 (refine hkG ?_)
 refine ⟨_, a.rest.map .p, ax_whole (rest := a.rest), ⟨rfl, clsArr_len _, rfl⟩, ?_⟩
 (refine hkG ?_)
 refine ⟨_, b.rest.map .p, ax_whole (rest := b.rest), ⟨rfl, clsArr_len _, rfl⟩, ?_⟩
 (refine hkG ?_)
 refine vcall_pf hga rfl rfl ?_
 (refine hkG ?_)
 cases ga with
 | true =>
   (refine hkC ?_)
   exact ret_pf rfl rfl rfl
 | false =>
   (refine hkC ?_)
   refine vcall_pf hgb rfl rfl ?_
   (refine hkG ?_)
   cases gb with
   | true =>
     (refine hkC ?_)
     exact ret_pf rfl rfl rfl
   | false =>
     (refine hkC ?_)
     by_cases h : 12 < a.next.length
     ·(refine hkD ?_)
      exact ret_pf rfl rfl (congrArg PV.b (by simp [h]))
     ·(refine hkD ?_)
      refine ret_pf rfl rfl (congrArg PV.b ?_)
      show decide ((12 : Int) < ((b.next.map rowLs).length : Int)) = _
      rw [hl2, decide_eq_false h]
      simp
      omega
theorem fit_of_not {d : Dfa} (ho : ∀ b, b < 256 → d.o b < 256) (h : greatD d = false) : d.Fit := by
 unfold greatD at h
 simp only [Bool.or_eq_false_iff, decide_eq_false_iff_not, List.any_eq_false, decide_eq_true_eq] at h
 obtain ⟨_, h1, h2, h3⟩ := h
 exact ⟨ho, by omega, fun r hr => by have := h3 r hr; omega, by omega⟩
theorem fit_of_not2 {a b : Dfa} (ha : ∀ x, x < 256 → a.o x < 256) (hb : ∀ x, x < 256 → b.o x < 256) (h : great2 a b = false) : a.Fit ∧ b.Fit := by
 unfold great2 at h
 simp only [Bool.or_eq_false_iff] at h
 exact ⟨fit_of_not ha h.1, fit_of_not hb h.2.1⟩
theorem letter_fn (b : Nat) (hb : b < 256) : PF Tryz.prog 72 [i64 b] (Tr.mk 1 (range' b b) [] 0 0).pv := by
 have h := range_fn b b (Nat.le_refl _) hb
 refine pf_intro rf72_eq rmixed rfl ?_
 (refine hkG ?_)
 refine vcall_pf h rfl rfl ?_
 (refine hkG ?_)
 refine ret_ple rfl rfl ?_
 exact PLe.agg (.cons (.refl _) (.cons (.refl _) (.cons (.refl _) (.cons (.refl _) (.cons (.refl _) (.cons (.nil (.inl rfl)) (.refl _)))))))
theorem zero_nfa_may : Nfa.zero.May := ⟨⟨Nat.zero_le _, rfl, rfl, rfl, Asc.nil _, (fun l h => by cases h)⟩, (fun r h => by cases h), (by show (-1 : Int) ≤ 0 ∧ (0 : Int) < 40; omega)⟩
theorem buildI_may (l : List Tr) : (buildI l).1.May := by
 unfold buildI
 split
 ·exact zero_nfa_may
 ·rename_i h
  split
  ·exact zero_nfa_may
  ·rename_i h2
   have hok : ∀ T ∈ l, T.ok = true := fun T hT => by
    have h3 : ¬ l.any (fun T => !T.may) = true := fun h3 => h (.inr (.inr h3))
    rw [Bool.not_eq_true, List.any_eq_false] at h3
    have := h3 T hT
    have hm : T.may = true := by simpa using this
    unfold Tr.may at hm
    simp only [Bool.and_eq_true] at hm
    exact hm.2
   have hz : Mk.zero.n = 0 := rfl
   obtain ⟨a, b⟩ := bFrom_ok l Mk.zero 0 zero_ok hok (by omega) (by omega)
   exact a.may (by omega)
def ofI (l : List Tr) : Dfa := (subI (buildI l).1).1
set_option maxHeartbeats 4000000 in
theorem ofRules_fn (l : List Tr) (cap : Option Nat) (hl : l.length < 2 ^ 40) (hT : ∀ T ∈ l, T.Fit) (hn : ∀ T ∈ l, T.nodes < 2 ^ 61) : PF Tryz.prog 73 [.isl 8 (Tr.rowsL l) cap] (ofI l).pv := by
 have hb := build_fn l cap hl hT hn
 have hs := subset_fn (buildI l).1 (buildI_may l)
 unfold BuildC at hb
 unfold ofI
 generalize (buildI l).2 = e at *
 generalize (buildI l).1 = n at *
 generalize (subI n).2 = e2 at *
 generalize (subI n).1 = d at *
 refine pf_intro rf73_eq rmixed rfl ?_
 (refine hkG ?_)
 refine vcall_new (ps := [.isl 8 (Tr.rowsL l) cap]) hb rfl rfl ?_
 rintro r H ⟨rfl, rfl⟩
 (refine hkG ?_)
 refine vcall_new (ps := [n.pv]) hs rfl rfl ?_
 rintro r H ⟨rfl, rfl⟩
 (refine hkG ?_)
 refine ⟨_, d.rest.map .p, ax_whole (rest := d.rest), ⟨rfl, rfl, clsArr_len _, rfl, Nat.le_refl _⟩, ?_⟩
 (refine hkG ?_)
 refine ⟨_, d.rest.map .p, ax_whole (rest := d.rest), ⟨rfl, rfl, clsArr_len _, rfl, Nat.le_refl _⟩, ?_⟩
 (refine hkG ?_)
 exact ret_pf rfl rfl rfl
end Hk
namespace Hk
open Go Go.Proofs
set_option linter.unusedVariables false
set_option linter.unusedSimpArgs false
set_option maxRecDepth 100000
abbrev Nod := Int × Int
structure Pr where
 at' : Nod
 text : List UInt8
 deriving DecidableEq
section
variable (Z : List Nod) (step : Nod → Nat → Nod)
def meet (q : List Pr) (x : Nod) (t : List UInt8) : List Pr := if x ∈ Z ++ q.map Pr.at' then q else q ++ [⟨x, t⟩]
def meetC (p : Pr) (q : List Pr) (c : Nat) : List Pr := meet Z q (step p.at' c) (p.text ++ [UInt8.ofNat c])
def wloop (bytes : List Nat) : Nat → List Pr → Nat → List Pr
 | 0, q, _ => q
 | f + 1, q, i => match q[i]? with
   | none => q
   | some p => wloop bytes f (bytes.foldl (meetC Z step p) q) (i + 1)
theorem meet_pre (q : List Pr) (x : Nod) (t : List UInt8) : ∃ r, meet Z q x t = q ++ r := by
 unfold meet; split
 ·exact ⟨[], by simp⟩
 ·exact ⟨_, rfl⟩
theorem meets_pre (p : Pr) : ∀ (l : List Nat) (q : List Pr), ∃ r, l.foldl (meetC Z step p) q = q ++ r
 | [], q => ⟨[], by simp⟩
 | c :: l, q => by
   obtain ⟨r, hr⟩ := meet_pre Z q (step p.at' c) (p.text ++ [UInt8.ofNat c])
   obtain ⟨s, hs⟩ := meets_pre p l (q ++ r)
   refine ⟨r ++ s, ?_⟩
   rw [List.foldl_cons]
   show l.foldl (meetC Z step p) (meet Z q _ _) = _
   rw [hr, hs, List.append_assoc]
theorem meet_has (q : List Pr) (x : Nod) (t : List UInt8) : x ∈ Z ++ (meet Z q x t).map Pr.at' := by
 unfold meet; split
 ·assumption
 ·simp
theorem meet_in {q : List Pr} {x : Nod} {t : List UInt8} (h : x ∈ Z ++ q.map Pr.at') : meet Z q x t = q := if_pos h
theorem meet_out {q : List Pr} {x : Nod} {t : List UInt8} (h : ¬ x ∈ Z ++ q.map Pr.at') : meet Z q x t = q ++ [⟨x, t⟩] := if_neg h
theorem has_more {x : Nod} {q r : List Pr} (h : x ∈ Z ++ q.map Pr.at') : x ∈ Z ++ (q ++ r).map Pr.at' := by
 rw [List.map_append, ← List.append_assoc]; exact List.mem_append_left _ h
theorem meets_has (p : Pr) : ∀ (l : List Nat) (q : List Pr) (c : Nat), c ∈ l → step p.at' c ∈ Z ++ (l.foldl (meetC Z step p) q).map Pr.at'
 | [], q, c, h => by cases h
 | a :: l, q, c, h => by
   rw [List.foldl_cons]
   rcases List.mem_cons.1 h with rfl | h
   ·obtain ⟨r, hr⟩ := meets_pre Z step p l (meetC Z step p q c)
    rw [hr]
    exact has_more Z (meet_has Z _ _ _)
   ·exact meets_has p l _ c h
def leastK {κ : Type} [DecidableEq κ] (key : Nat → κ) : Nat → List Nat
 | 0 => []
 | n + 1 => if key n ∈ (List.range n).map key then leastK key n else leastK key n ++ [n]
theorem leastK_has {κ : Type} [DecidableEq κ] (key : Nat → κ) : ∀ n c, c < n → ∃ c' ∈ leastK key n, key c' = key c
 | 0, c, h => by omega
 | n + 1, c, h => by
   unfold leastK
   split
   ·rename_i hm
    by_cases hc : c = n
    ·subst hc
     obtain ⟨a, ha, he⟩ := List.mem_map.1 hm
     obtain ⟨c', h1, h2⟩ := leastK_has key c a (by simpa using ha)
     exact ⟨c', h1, h2.trans he⟩
    ·exact leastK_has key n c (by omega)
   ·by_cases hc : c = n
    ·subst hc; exact ⟨c, by simp, rfl⟩
    ·obtain ⟨c', h1, h2⟩ := leastK_has key n c (by omega)
     exact ⟨c', by simp [h1], h2⟩
theorem leastK_lt {κ : Type} [DecidableEq κ] (key : Nat → κ) : ∀ n c, c ∈ leastK key n → c < n
 | 0, c, h => by cases h
 | n + 1, c, h => by
   unfold leastK at h
   split at h
   ·have := leastK_lt key n c h; omega
   ·rcases List.mem_append.1 h with h | h
    ·have := leastK_lt key n c h; omega
    ·simp at h; omega
theorem meets_least {κ : Type} [DecidableEq κ] (key : Nat → κ) (p : Pr) (hk : ∀ c c', key c = key c' → step p.at' c = step p.at' c') (q : List Pr) :
 ∀ n, (leastK key n).foldl (meetC Z step p) q = (List.range n).foldl (meetC Z step p) q
 | 0 => rfl
 | n + 1 => by
   have ih := meets_least key p hk q n
   rw [List.range_succ, List.foldl_append, ← ih, leastK]
   split
   ·rename_i hm
    obtain ⟨a, ha, he⟩ := List.mem_map.1 hm
    obtain ⟨c', h1, h2⟩ := leastK_has key n a (by simpa using ha)
    rw [List.foldl_cons, List.foldl_nil]
    have h3 := meets_has Z step p (leastK key n) q c' h1
    rw [hk c' n (h2.trans he)] at h3
    exact (meet_in Z h3).symm
   ·rw [List.foldl_append]
theorem wloop_least {κ : Type} [DecidableEq κ] (key : Nat → κ) (hk : ∀ x c c', key c = key c' → step x c = step x c') (n : Nat) :
 ∀ (f : Nat) (q : List Pr) (i : Nat), wloop Z step (leastK key n) f q i = wloop Z step (List.range n) f q i
 | 0, q, i => rfl
 | f + 1, q, i => by
   unfold wloop
   split
   ·rfl
   ·rw [meets_least Z step key _ (fun c c' h => hk _ c c' h) q n]
    exact wloop_least key hk n f _ _
def Bd (n m : Nat) (x : Nod) : Prop := (-1 ≤ x.1 ∧ x.1 < (n : Int)) ∧ (-1 ≤ x.2 ∧ x.2 < (m : Int))
structure QOk (n m : Nat) (q : List Pr) : Prop where
 nd : (Z ++ q.map Pr.at').Nodup
 bd : ∀ p ∈ q, Bd n m p.at'
theorem QOk.nil (n m : Nat) (hZ : Z.Nodup) : QOk Z n m [] := ⟨by simpa using hZ, fun p h => by cases h⟩
theorem QOk.meet {n m : Nat} {q : List Pr} (h : QOk Z n m q) {x : Nod} (t : List UInt8) (hx : Bd n m x) : QOk Z n m (meet Z q x t) := by
 unfold Hk.meet
 split
 ·exact h
 ·rename_i hn
  refine ⟨?_, fun p hp => ?_⟩
  ·rw [List.map_append, ← List.append_assoc]
   refine List.nodup_append.2 ⟨h.nd, by simp, fun a ha b hb => ?_⟩
   simp at hb
   rintro rfl
   exact hn (hb ▸ ha)
  ·rcases List.mem_append.1 hp with hp | hp
   ·exact h.bd p hp
   ·simp at hp; subst hp; exact hx
theorem QOk.meets {n m : Nat} {p : Pr} : ∀ (l : List Nat) (hst : ∀ c ∈ l, Bd n m (step p.at' c)) (q : List Pr), QOk Z n m q → QOk Z n m (l.foldl (meetC Z step p) q)
 | [], _, q, h => h
 | c :: l, hl, q, h => QOk.meets l (fun c hc => hl c (by simp [hc])) _ (h.meet Z _ (hl c (by simp)))
def cod (m : Nat) (x : Nod) : Nat := (x.1 + 1).toNat * (m + 1) + (x.2 + 1).toNat
theorem nodup_le (N : Nat) (l : List Nat) (h : l.Nodup) (hb : ∀ x ∈ l, x < N) : l.length ≤ N := by
 have := h.length_le_of_subset (l₂ := List.range N) fun x hx => by simpa using hb x hx
 simpa using this
theorem map_nodup {α β : Type} {f : α → β} : ∀ {l : List α}, (∀ x ∈ l, ∀ y ∈ l, f x = f y → x = y) → l.Nodup → (l.map f).Nodup
 | [], _, _ => .nil
 | a :: l, hf, h => by
   rw [List.map_cons]
   obtain ⟨h1, h2⟩ := List.nodup_cons.1 h
   refine List.nodup_cons.2 ⟨fun hm => ?_, map_nodup (fun x hx y hy => hf x (by simp [hx]) y (by simp [hy])) h2⟩
   obtain ⟨y, hy, he⟩ := List.mem_map.1 hm
   exact h1 (hf a (by simp) y (by simp [hy]) he.symm ▸ hy)
theorem cod_inj {m : Nat} {x y : Nod} (hx : -1 ≤ x.1 ∧ -1 ≤ x.2 ∧ x.2 < m) (hy : -1 ≤ y.1 ∧ -1 ≤ y.2 ∧ y.2 < m) (h : cod m x = cod m y) : x = y := by
 unfold cod at h
 have h1 : (x.2 + 1).toNat < m + 1 := by omega
 have h2 : (y.2 + 1).toNat < m + 1 := by omega
 have e1 : (x.2 + 1).toNat = (y.2 + 1).toNat := by
  have := congrArg (· % (m + 1)) h
  simp only [Nat.mul_add_mod_self_right, Nat.mod_eq_of_lt h1, Nat.mod_eq_of_lt h2] at this
  exact this
 have e2 : (x.1 + 1).toNat = (y.1 + 1).toNat := by
  rw [e1] at h
  exact Nat.eq_of_mul_eq_mul_right (Nat.succ_pos m) (Nat.add_right_cancel h)
 exact Prod.ext (by omega) (by omega)
theorem QOk.le {n m : Nat} {q : List Pr} (h : QOk Z n m q) : q.length ≤ (n + 1) * (m + 1) := by
 have hnd := (List.nodup_append.1 h.nd).2.1
 have := nodup_le ((n + 1) * (m + 1)) ((q.map Pr.at').map (cod m)) ?_ ?_
 ·simpa using this
 ·refine map_nodup ?_ hnd
  intro x hx y hy he
  obtain ⟨p, hp, rfl⟩ := List.mem_map.1 hx
  obtain ⟨r, hr, rfl⟩ := List.mem_map.1 hy
  have b1 := h.bd p hp
  have b2 := h.bd r hr
  exact cod_inj ⟨b1.1.1, b1.2⟩ ⟨b2.1.1, b2.2⟩ he
 ·intro x hx
  simp only [List.mem_map] at hx
  obtain ⟨y, ⟨p, hp, rfl⟩, rfl⟩ := hx
  have b1 := h.bd p hp
  unfold cod
  have b3 := b1.1
  have b4 := b1.2
  have h1 : (p.at'.1 + 1).toNat ≤ n := by omega
  have h2 : (p.at'.2 + 1).toNat < m + 1 := by omega
  calc _ < (p.at'.1 + 1).toNat * (m + 1) + (m + 1) := by omega
   _ = ((p.at'.1 + 1).toNat + 1) * (m + 1) := by rw [Nat.succ_mul]
   _ ≤ _ := Nat.mul_le_mul_right _ (by omega)
theorem wloop_end (bytes : List Nat) : ∀ (f : Nat) (q : List Pr) (i : Nat), q[i]? = none → wloop Z step bytes f q i = q
 | 0, q, i, h => rfl
 | f + 1, q, i, h => by unfold wloop; rw [h]
theorem wloop_next (bytes : List Nat) (f : Nat) (q : List Pr) (i : Nat) (p : Pr) (h : q[i]? = some p) : wloop Z step bytes (f + 1) q i = wloop Z step bytes f (bytes.foldl (meetC Z step p) q) (i + 1) := by
 rw [wloop, h]
theorem wloop_pre (bytes : List Nat) : ∀ (f : Nat) (q : List Pr) (i : Nat), ∃ r, wloop Z step bytes f q i = q ++ r
 | 0, q, i => ⟨[], by simp [wloop]⟩
 | f + 1, q, i => by
   unfold wloop
   split
   ·exact ⟨[], by simp⟩
   ·rename_i p hp
    obtain ⟨r, hr⟩ := meets_pre Z step p bytes q
    obtain ⟨s, hs⟩ := wloop_pre bytes f (q ++ r) (i + 1)
    exact ⟨r ++ s, by rw [hr, hs, List.append_assoc]⟩
theorem wloop_inv (bytes : List Nat) {I : List Pr → Nat → Prop} {B : Nat} (hs : ∀ q i p, I q i → q[i]? = some p → I (bytes.foldl (meetC Z step p) q) (i + 1)) (hb : ∀ q i, I q i → q.length ≤ B ∧ i ≤ q.length) :
 ∀ (f : Nat) (q : List Pr) (i : Nat), I q i → B < f + i → I (wloop Z step bytes f q i) (wloop Z step bytes f q i).length
 | 0, q, i, h, hf => by
   have := hb q i h
   omega
 | f + 1, q, i, h, hf => by
   cases hp : q[i]? with
   | none =>
     rw [wloop_end Z step bytes _ q i hp]
     have h1 := (hb q i h).2
     have h2 := List.getElem?_eq_none_iff.1 hp
     rw [show q.length = i by omega]
     exact h
   | some p =>
     rw [wloop_next Z step bytes f q i p hp]
     exact wloop_inv bytes hs hb f _ _ (hs q i p h hp) (by omega)
inductive Con (x0 : Nod) (bytes : List Nat) : Nod → Prop
 | start : Con x0 bytes x0
 | step {x : Nod} {c : Nat} : Con x0 bytes x → c ∈ bytes → Con x0 bytes (step x c)
structure WInv (n m : Nat) (x0 : Nod) (bytes : List Nat) (q : List Pr) (i : Nat) : Prop extends QOk Z n m q where
 le : i ≤ q.length
 con : ∀ p ∈ q, Con step x0 bytes p.at'
 has : x0 ∈ Z ++ q.map Pr.at'
 cl : ∀ j p, j < i → q[j]? = some p → ∀ c ∈ bytes, step p.at' c ∈ Z ++ q.map Pr.at'
theorem meets_con {x0 : Nod} {bytes : List Nat} {p : Pr} (hp : Con step x0 bytes p.at') : ∀ (l : List Nat) (hl : ∀ c ∈ l, c ∈ bytes) (q : List Pr), (∀ p ∈ q, Con step x0 bytes p.at') → ∀ r ∈ l.foldl (meetC Z step p) q, Con step x0 bytes r.at'
 | [], _, q, h => h
 | c :: l, hl, q, h => meets_con hp l (fun c hc => hl c (by simp [hc])) _ fun r hr => by
   unfold meetC meet at hr
   split at hr
   ·exact h r hr
   ·rcases List.mem_append.1 hr with hr | hr
    ·exact h r hr
    ·simp at hr; subst hr; exact .step hp (hl c (by simp))
theorem WInv.next {n m : Nat} {x0 : Nod} {bytes : List Nat} (hst : ∀ x, Bd n m x → ∀ c ∈ bytes, Bd n m (step x c)) {q : List Pr} {i : Nat} {p : Pr} (h : WInv Z step n m x0 bytes q i) (hp : q[i]? = some p) :
 WInv Z step n m x0 bytes (bytes.foldl (meetC Z step p) q) (i + 1) := by
 have hm : p ∈ q := List.mem_of_getElem? hp
 have hlt := (List.getElem?_eq_some_iff.1 hp).1
 obtain ⟨r, hr⟩ := meets_pre Z step p bytes q
 refine ⟨QOk.meets Z step bytes (hst _ (h.bd p hm)) q h.toQOk, ?_, meets_con Z step (h.con p hm) bytes (fun c hc => hc) q h.con, ?_, ?_⟩
 ·rw [hr]; simp; omega
 ·rw [hr]; exact has_more Z h.has
 ·intro j p' hj hp' c hc
  by_cases e : j = i
  ·subst e
   have : p' = p := by
    rw [hr, List.getElem?_append_left hlt, hp] at hp'
    exact (Option.some.inj hp').symm
   subst this
   exact meets_has Z step p' bytes q c hc
  ·rw [hr, List.getElem?_append_left (by omega)] at hp'
   rw [hr]
   exact has_more Z (h.cl j p' (by omega) hp' c hc)
theorem WInv.end' {n m : Nat} {x0 : Nod} {bytes : List Nat} (hst : ∀ x, Bd n m x → ∀ c ∈ bytes, Bd n m (step x c)) {q : List Pr} {i : Nat} (h : WInv Z step n m x0 bytes q i) (f : Nat) (hf : (n + 1) * (m + 1) < f + i) :
 WInv Z step n m x0 bytes (wloop Z step bytes f q i) (wloop Z step bytes f q i).length :=
 wloop_inv Z step bytes (I := WInv Z step n m x0 bytes) (fun q i p h hp => h.next Z step hst hp) (fun q i h => ⟨h.toQOk.le Z, h.le⟩) f q i h hf
theorem WInv.all {n m : Nat} {x0 : Nod} {bytes : List Nat} (hZ : ∀ x ∈ Z, ∀ c ∈ bytes, step x c ∈ Z) {q : List Pr} (h : WInv Z step n m x0 bytes q q.length) {x : Nod} (hx : Con step x0 bytes x) : x ∈ Z ++ q.map Pr.at' := by
 induction hx with
 | start => exact h.has
 | @step y c _ hc ih =>
   rcases List.mem_append.1 ih with ih | ih
   ·exact List.mem_append_left _ (hZ y ih c hc)
   ·obtain ⟨p, hp, rfl⟩ := List.mem_map.1 ih
    obtain ⟨j, hj⟩ := List.getElem?_of_mem hp
    exact h.cl j p (List.getElem?_eq_some_iff.1 hj).1 hj c hc
end
end Hk
