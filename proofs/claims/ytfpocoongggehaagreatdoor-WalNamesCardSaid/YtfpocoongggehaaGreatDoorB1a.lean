/- The lowered forms of the functions on the road. -/
import Derived.Test.YtfpocoongggehaaGreatDoorA38
set_option linter.all false
namespace Go.Proofs.YtfpocoongggehaaGreatDoor
open Go Go.Abs


def lp3x0 : LCode := .loop (.seq (.keep [0, 2, 9, 11, 12, 13, 14, 16, 17])
 (.seq (.seq (.reg [mo 57 (tm 17),
 mo 58 (tm 2),
 le 59 false (tm 58),
 b2 60 .lss 3 (tm 57) (tm 59) 3 4])
 (.cond (tm 60) .skip
 (.exit 0)))
 (.seq (.keep [0, 2, 9, 11, 12, 13, 14, 17])
 (.seq (.block 1 (.seq (.seq (.reg [mo 63 (tm 2),
 mo 64 (tm 17),
 is 65 1 (tm 63) (tm 64),
 l1 66 (tm 65),
 ca 67 15 [(tm 66)]])
 (.cond (tm 67) (.seq (.reg [ca 68 17 [],
 mo 10 (tm 68)])
 .ret)
 .skip))
 (.seq (.keep [0, 2, 9, 11, 12, 13, 14, 17])
 (.seq (.reg [mo 69 (tm 2),
 mo 70 (tm 17),
 is 71 1 (tm 69) (tm 70),
 l1 72 (tm 71),
 ca 73 20 [(tm 72)],
 mo 18 (tm 73)])
 (.seq (.reg [mo 74 (tm 14),
 mo 75 (tm 18),
 ca 76 23 [(tm 74), (tm 75)],
 mo 19 (tm 76)])
 (.seq (.reg [oo 77 (.bslice 16 0 [(.int .u8 0), (.int .u64 0), (.int .u8 0), (.int .u64 0), (.int .u64 0), (.int .u8 0), (.int .u8 0), (.int .u8 0), (.int .u8 0), (.int .u8 0), (.int .u8 0), (.int .u8 0), (.int .u8 0), (.int .u8 0), (.int .u8 0), (.string ⟨#[]⟩)] []),
 mo 78 (tm 13),
 ap 79 16 72 (tm 77) (tm 78),
 mo 80 (tm 18),
 ap 81 16 72 (tm 79) (tm 80),
 mo 16 (tm 81)])
 (.seq (.seq (.reg [mo 82 (tm 19),
 b2 83 .eql 39 (tm 82) (ki 7) 39 4])
 (.cond (tm 83) (.exit 0)
 .skip))
 (.seq (.keep [0, 2, 9, 11, 12, 14, 16, 17, 19])
 (.seq (.seq (.reg [mo 84 (tm 19),
 b2 85 .neq 39 (tm 84) (ki 0) 39 4])
 (.cond (tm 85) (.seq (.reg [mo 10 (kB false)])
 .ret)
 .skip))
 (.seq (.keep [0, 2, 9, 11, 12, 14, 16, 17])
 (.reg [mo 86 (tm 16),
 mo 13 (tm 86)])))))))))))
 (.seq (.keep [0, 2, 9, 11, 12, 13, 14, 16, 17])
 (.reg [mo 61 (tm 17),
 b2 62 .add 3 (tm 61) (ki 1) 3 3,
 mo 17 (tm 62)]))))))

def lf3 : LFunc := ⟨5, [.tmp 10],
 (.seq (.reg [oo 9 (.box (tm 4)),
 mo 10 (kB false)])
 (.seq (.seq (.reg [mo 24 (tm 1),
 ca 25 15 [(tm 24)],
 mo 26 (tm 25),
 ⟨(some 27), (some (26, false)), .mv (tm 2)⟩,
 ⟨(some 28), (some (26, false)), .len false (tm 27)⟩,
 ⟨(some 29), (some (26, false)), .prim ⟨none, (.binOp .gtr 3 (tm 28) (ki 20) 3), 4, "", #[], none⟩⟩,
 oo 30 (.pick (tm 26) (kB true) (tm 29)),
 mo 31 (tm 30),
 ⟨(some 32), (some (31, false)), .ldn 2 (tm 9)⟩,
 ⟨(some 33), (some (31, false)), .call 16 [(tm 32)]⟩,
 oo 34 (.pick (tm 31) (kB true) (tm 33))])
 (.seq (.keep [0, 1, 2, 3, 9, 34])
 (.cond (tm 34) (.seq (.reg [ca 35 17 [],
 mo 10 (tm 35)])
 .ret)
 .skip)))
 (.seq (.keep [0, 1, 2, 3, 9])
 (.seq (.reg [ca 36 18 [],
 mo 11 (tm 36)])
 (.seq (.reg [ca 37 19 [],
 oo 12 (.alloc [(.int .u32 0), (.int .u32 0), (.int .u32 0), (.int .u32 0), (.int .u32 0), (.int .u32 0), (.int .u32 0), (.int .u32 0), (.int .u32 0), (.int .u32 0), (.int .u32 0), (.int .u32 0), (.int .u32 0), (.int .u32 0), (.int .u32 0), (.int .u32 0), (.int .u32 0), (.int .u32 0), (.int .u32 0), (.int .u32 0), (.int .u32 0), (.int .u32 0), (.int .u32 0), (.int .u32 0), (.int .u32 0), (.int .u32 0), (.int .u32 0), (.int .u32 0), (.int .u32 0), (.int .u32 0), (.int .u32 0), (.int .u32 0), (.int .u32 0), (.int .u32 0), (.int .u32 0), (.int .u32 0), (.int .u32 0), (.int .u32 0), (.int .u32 0), (.int .u32 0), (.int .u32 0), (.int .u32 0), (.int .u32 0), (.int .u32 0), (.int .u32 0), (.int .u32 0), (.int .u32 0), (.int .u32 0), (.int .u32 0), (.int .u32 0), (.int .u32 0), (.int .u32 0), (.int .u32 0), (.int .u32 0), (.int .u32 0), (.int .u32 0), (.int .u32 0), (.int .u32 0), (.int .u32 0), (.int .u32 0), (.int .u32 0), (.int .u32 0), (.int .u32 0), (.int .u32 0), (.int .u32 0), (.int .u32 0), (.int .u32 0), (.int .u32 0), (.int .u32 0), (.int .u32 0), (.int .u32 0), (.int .u32 0), (.int .u32 0), (.int .u32 0), (.int .u32 0), (.int .u32 0), (.int .u32 0), (.int .u32 0), (.int .u32 0), (.int .u32 0), (.int .u32 0), (.int .u32 0), (.int .u32 0), (.int .u32 0), (.int .u32 0), (.int .u32 0), (.int .u32 0), (.int .u32 0), (.int .u32 0), (.int .u32 0), (.int .u32 0), (.int .u32 0), (.int .u32 0), (.int .u32 0), (.int .u32 0), (.int .u32 0), (.int .u32 0), (.int .u32 0), (.int .u32 0), (.int .u32 0), (.int .u32 0), (.int .u32 0), (.int .u32 0), (.int .u32 0), (.int .u32 0), (.int .u32 0), (.int .u32 0), (.int .u32 0), (.int .u32 0), (.int .u32 0), (.int .u32 0), (.int .u32 0), (.int .u32 0), (.int .u32 0), (.int .u32 0), (.int .u32 0), (.int .u32 0), (.int .u32 0), (.int .u32 0), (.int .u32 0), (.int .u32 0), (.int .u32 0), (.int .u32 0), (.int .u32 0), (.int .u32 0), (.int .u32 0), (.int .u32 0), (.int .u32 0), (.int .u32 0), (.int .u32 0), (.int .u32 0), (.int .u32 0), (.int .u32 0), (.int .u32 0), (.int .u32 0), (.int .u32 0), (.int .u32 0), (.int .u32 0), (.int .u32 0), (.int .u32 0), (.int .u32 0), (.int .u32 0), (.int .u32 0), (.int .u32 0), (.int .u32 0), (.int .u32 0), (.int .u32 0), (.int .u32 0), (.int .u32 0), (.int .u32 0), (.int .u32 0), (.int .u32 0), (.int .u32 0), (.int .u32 0), (.int .u32 0), (.int .u32 0), (.int .u32 0), (.int .u32 0), (.int .u32 0), (.int .u32 0), (.int .u32 0), (.int .u32 0), (.int .u32 0), (.int .u32 0), (.int .u32 0), (.int .u32 0), (.int .u32 0), (.int .u32 0), (.int .u32 0), (.int .u32 0), (.int .u32 0), (.int .u32 0), (.int .u32 0), (.int .u32 0), (.int .u32 0), (.int .u32 0), (.int .u32 0), (.int .u32 0), (.int .u32 0), (.int .u32 0), (.int .u32 0), (.int .u32 0), (.int .u32 0), (.int .u32 0), (.int .u32 0), (.int .u32 0), (.int .u32 0), (.int .u32 0), (.int .u32 0), (.int .u32 0), (.int .u32 0), (.int .u32 0), (.int .u32 0), (.int .u32 0), (.int .u32 0), (.int .u32 0), (.int .u32 0), (.int .u32 0), (.int .u32 0), (.int .u32 0), (.int .u32 0), (.int .u32 0), (.int .u32 0), (.int .u32 0), (.int .u32 0), (.int .u32 0), (.int .u32 0), (.int .u32 0), (.int .u32 0), (.int .u32 0), (.int .u32 0), (.int .u32 0), (.int .u32 0), (.int .u32 0), (.int .u32 0), (.int .u32 0), (.int .u32 0), (.int .u32 0), (.int .u32 0), (.int .u32 0), (.int .u32 0), (.int .u32 0), (.int .u32 0), (.int .u32 0), (.int .u32 0), (.int .u32 0), (.int .u32 0), (.int .u32 0), (.int .u32 0), (.int .u32 0), (.int .u32 0), (.int .u32 0), (.int .u32 0), (.int .u32 0), (.int .u32 0), (.int .u32 0), (.int .u32 0), (.int .u32 0), (.int .u32 0), (.int .u32 0), (.int .u32 0), (.int .u32 0), (.int .u32 0), (.int .u32 0), (.int .u32 0), (.int .u32 0), (.int .u32 0), (.int .u32 0), (.int .u32 0), (.int .u32 0), (.int .u32 0), (.int .u32 0), (.int .u32 0), (.int .u32 0), (.int .u32 0), (.int .u32 0)]),
 sr 256 (tm 12) (tm 37)])
 (.seq (.reg [mo 38 (tm 1),
 ca 39 20 [(tm 38)],
 mo 13 (tm 39)])
 (.seq (.reg [mo 41 (tm 11),
 mo 42 (tm 0),
 mo 43 (tm 13),
 ca 44 21 [(tm 41), (tm 12), (ku 7), (tm 42), (tm 43)],
 mo 40 (tm 44),
 ex 45 (tm 40) 0,
 ex 46 (tm 40) 1,
 mo 14 (tm 45),
 mo 15 (tm 46)])
 (.seq (.keep [0, 2, 3, 9, 11, 12, 13, 14, 15])
 (.seq (.seq (.reg [mo 47 (tm 15),
 b2 48 .neq 39 (tm 47) (ki 0) 39 4,
 mo 49 (tm 48),
 ⟨(some 50), (some (49, false)), .mv (tm 14)⟩,
 ⟨(some 51), (some (49, false)), .cmpref 0 false (tm 50) (.const (.pointer none))⟩,
 oo 52 (.pick (tm 49) (kB true) (tm 51))])
 (.cond (tm 52) (.seq (.reg [mo 10 (kB false)])
 .ret)
 .skip))
 (.seq (.keep [0, 2, 3, 9, 11, 12, 13, 14])
 (.seq (.reg [mo 53 (tm 11),
 mo 54 (tm 3),
 ca 55 22 [(tm 53), (tm 54)]])
 (.seq (.reg [mo 56 (tm 13),
 mo 16 (tm 56)])
 (.seq (.seq (.reg [mo 17 (ki 0)])
 (.block 0 lp3x0))
 (.seq (.keep [0, 9, 11, 12, 13, 16])
 (.seq (.reg [mo 87 (tm 11),
 l2 88 2 (tm 9),
 ca 89 24 [(tm 87), (tm 88)]])
 (.seq (.reg [mo 90 (tm 11),
 ca 91 25 [(tm 90)]])
 (.seq (.reg [mo 93 (tm 11),
 ca 94 26 [(tm 93), (tm 12), (ku 7)],
 mo 92 (tm 94),
 ex 95 (tm 92) 0,
 ex 96 (tm 92) 1,
 ex 97 (tm 92) 2,
 ex 98 (tm 92) 3,
 mo 20 (tm 95),
 mo 21 (tm 96),
 mo 22 (tm 97),
 mo 23 (tm 98)])
 (.seq (.keep [0, 13, 16, 20, 21, 22, 23])
 (.seq (.reg [mo 99 (tm 23),
 b2 100 .eql 39 (tm 99) (ki 0) 39 4,
 mo 101 (tm 100),
 ⟨(some 102), (some (101, true)), .mv (tm 22)⟩,
 oo 103 (.pick (tm 101) (tm 102) (kB false)),
 mo 104 (tm 103),
 ⟨(some 105), (some (104, true)), .mv (tm 20)⟩,
 ⟨(some 106), (some (104, true)), .mv (tm 0)⟩,
 ⟨(some 107), (some (104, true)), .prim ⟨none, (.binOp .eql 22 (tm 105) (tm 106) 22), 4, "", #[], none⟩⟩,
 oo 108 (.pick (tm 104) (tm 107) (kB false)),
 mo 109 (tm 108),
 ⟨(some 110), (some (109, true)), .mv (tm 13)⟩,
 ⟨(some 111), (some (109, true)), .mv (tm 21)⟩,
 ⟨(some 112), (some (109, true)), .call 27 [(tm 110), (tm 111)]⟩,
 oo 113 (.pick (tm 109) (tm 112) (kB false)),
 mo 114 (tm 113),
 ⟨(some 115), (some (114, true)), .mv (tm 21)⟩,
 ⟨(some 116), (some (114, true)), .mv (tm 16)⟩,
 ⟨(some 117), (some (114, true)), .call 27 [(tm 115), (tm 116)]⟩,
 oo 118 (.pick (tm 114) (tm 117) (kB false)),
 mo 119 (tm 118),
 ⟨(some 120), (some (119, true)), .call 17 []⟩,
 oo 121 (.pick (tm 119) (tm 120) (kB false)),
 mo 10 (tm 121)])
 (.seq (.keep [10])
 .ret))))))))))))))))))))⟩

def lp4x0 : LCode := .loop (.seq (.keep [1, 2, 7, 9, 10, 11])
 (.seq (.seq (.reg [mo 33 (tm 11),
 mo 34 (tm 10),
 le 35 false (tm 34),
 b2 36 .lss 3 (tm 33) (tm 35) 3 4])
 (.cond (tm 36) .skip
 (.exit 0)))
 (.seq (.keep [1, 2, 7, 9, 10, 11])
 (.seq (.block 1 (.seq (.seq (.reg [mo 39 (tm 11),
 mo 40 (tm 1),
 le 41 false (tm 40),
 b2 42 .lss 3 (tm 39) (tm 41) 3 4,
 mo 43 (tm 42),
 ⟨(some 44), (some (43, true)), .mv (tm 1)⟩,
 ⟨(some 45), (some (43, true)), .mv (tm 11)⟩,
 ⟨(some 46), (some (43, true)), .iadrs 1 (tm 44) (tm 45)⟩,
 ⟨(some 47), (some (43, true)), .ld1 (tm 46)⟩,
 ⟨(some 48), (some (43, true)), .prim ⟨none, (.call ⟨.builtin .len, #[(tm 47)], #[9]⟩), 3, "", #[], none⟩⟩,
 ⟨(some 49), (some (43, true)), .prim ⟨none, (.binOp .gtr 3 (tm 48) (ki 200) 3), 4, "", #[], none⟩⟩,
 oo 50 (.pick (tm 43) (tm 49) (kB false))])
 (.seq (.keep [1, 2, 7, 9, 10, 11, 50])
 (.cond (tm 50) (.seq (.reg [ca 51 17 [],
 mo 8 (tm 51)])
 .ret)
 .skip)))
 (.seq (.keep [1, 2, 7, 9, 10, 11])
 (.seq (.reg [mo 52 (tm 11),
 mo 53 (tm 1),
 le 54 false (tm 53),
 b2 55 .lss 3 (tm 52) (tm 54) 3 4,
 mo 56 (tm 55),
 ⟨(some 57), (some (56, true)), .mv (tm 10)⟩,
 ⟨(some 58), (some (56, true)), .mv (tm 11)⟩,
 ⟨(some 59), (some (56, true)), .iadrs 16 (tm 57) (tm 58)⟩,
 ⟨(some 60), (some (56, true)), .fadr 0 (tm 59)⟩,
 ⟨(some 61), (some (56, true)), .ld1 (tm 60)⟩,
 ⟨(some 62), (some (56, true)), .prim ⟨none, (.binOp .eql 5 (tm 61) (kb 3) 5), 4, "", #[], none⟩⟩,
 oo 63 (.pick (tm 56) (tm 62) (kB false)),
 mo 64 (tm 63),
 ⟨(some 65), (some (64, true)), .mv (tm 10)⟩,
 ⟨(some 66), (some (64, true)), .mv (tm 11)⟩,
 ⟨(some 67), (some (64, true)), .iadrs 16 (tm 65) (tm 66)⟩,
 ⟨(some 68), (some (64, true)), .fadr 3 (tm 67)⟩,
 ⟨(some 69), (some (64, true)), .fadr 2 (tm 68)⟩,
 ⟨(some 70), (some (64, true)), .ld1 (tm 69)⟩,
 ⟨(some 71), (some (64, true)), .prim ⟨none, (.binOp .geq 5 (tm 70) (kb 3) 5), 4, "", #[], none⟩⟩,
 oo 72 (.pick (tm 64) (tm 71) (kB false)),
 mo 73 (tm 72),
 ⟨(some 74), (some (73, true)), .mv (tm 10)⟩,
 ⟨(some 75), (some (73, true)), .mv (tm 11)⟩,
 ⟨(some 76), (some (73, true)), .iadrs 16 (tm 74) (tm 75)⟩,
 ⟨(some 77), (some (73, true)), .fadr 3 (tm 76)⟩,
 ⟨(some 78), (some (73, true)), .fadr 2 (tm 77)⟩,
 ⟨(some 79), (some (73, true)), .ld1 (tm 78)⟩,
 ⟨(some 80), (some (73, true)), .prim ⟨none, (.binOp .leq 5 (tm 79) (kb 4) 5), 4, "", #[], none⟩⟩,
 oo 81 (.pick (tm 73) (tm 80) (kB false))])
 (.seq (.keep [1, 2, 7, 9, 10, 11, 81])
 (.cond (tm 81) (.reg [mo 82 (tm 10),
 mo 83 (tm 11),
 mo 84 (tm 1),
 mo 85 (tm 11),
 is 86 1 (tm 84) (tm 85),
 l1 87 (tm 86),
 is 88 16 (tm 82) (tm 83),
 fa 89 3 (tm 88),
 fa 90 12 (tm 89),
 sr 1 (tm 90) (tm 87)])
 .skip))))))
 (.seq (.keep [1, 2, 7, 9, 10, 11])
 (.reg [mo 37 (tm 11),
 b2 38 .add 3 (tm 37) (ki 1) 3 3,
 mo 11 (tm 38)]))))))

def lf4 : LFunc := ⟨4, [.tmp 8],
 (.seq (.reg [oo 7 (.box (tm 3)),
 mo 8 (kB false)])
 (.seq (.seq (.reg [mo 16 (tm 0),
 ca 17 15 [(tm 16)],
 mo 18 (tm 17),
 ⟨(some 19), (some (18, false)), .ldn 2 (tm 7)⟩,
 ⟨(some 20), (some (18, false)), .call 16 [(tm 19)]⟩,
 oo 21 (.pick (tm 18) (kB true) (tm 20)),
 mo 22 (tm 21),
 ⟨(some 23), (some (22, false)), .mv (tm 1)⟩,
 ⟨(some 24), (some (22, false)), .len false (tm 23)⟩,
 ⟨(some 25), (some (22, false)), .prim ⟨none, (.binOp .gtr 3 (tm 24) (ki 40) 3), 4, "", #[], none⟩⟩,
 oo 26 (.pick (tm 22) (kB true) (tm 25))])
 (.seq (.keep [0, 1, 2, 7, 26])
 (.cond (tm 26) (.seq (.reg [ca 27 17 [],
 mo 8 (tm 27)])
 .ret)
 .skip)))
 (.seq (.keep [0, 1, 2, 7])
 (.seq (.reg [mo 28 (tm 0),
 ca 29 20 [(tm 28)],
 mo 9 (tm 29)])
 (.seq (.reg [oo 30 (.bslice 16 0 [(.int .u8 0), (.int .u64 0), (.int .u8 0), (.int .u64 0), (.int .u64 0), (.int .u8 0), (.int .u8 0), (.int .u8 0), (.int .u8 0), (.int .u8 0), (.int .u8 0), (.int .u8 0), (.int .u8 0), (.int .u8 0), (.int .u8 0), (.string ⟨#[]⟩)] []),
 mo 31 (tm 9),
 ap 32 16 72 (tm 30) (tm 31),
 mo 10 (tm 32)])
 (.seq (.seq (.reg [mo 11 (ki 0)])
 (.block 0 lp4x0))
 (.seq (.keep [2, 7, 9, 10])
 (.seq (.reg [mo 92 (tm 9),
 mo 93 (tm 2),
 l2 94 2 (tm 7),
 ca 95 28 [(tm 92), (tm 93), (tm 94)],
 mo 91 (tm 95),
 ex 96 (tm 91) 0,
 ex 97 (tm 91) 1,
 mo 12 (tm 96),
 mo 13 (tm 97)])
 (.seq (.keep [2, 7, 9, 10, 12, 13])
 (.seq (.reg [mo 99 (tm 10),
 mo 100 (tm 2),
 l2 101 2 (tm 7),
 ca 102 28 [(tm 99), (tm 100), (tm 101)],
 mo 98 (tm 102),
 ex 103 (tm 98) 0,
 ex 104 (tm 98) 1,
 mo 14 (tm 103),
 mo 15 (tm 104)])
 (.seq (.keep [9, 10, 12, 13, 14, 15])
 (.seq (.reg [mo 105 (tm 12),
 le 106 false (tm 105),
 mo 107 (tm 14),
 le 108 false (tm 107),
 b2 109 .eql 3 (tm 106) (tm 108) 3 4,
 mo 110 (tm 109),
 ⟨(some 111), (some (110, true)), .mv (tm 13)⟩,
 ⟨(some 112), (some (110, true)), .mv (tm 15)⟩,
 ⟨(some 113), (some (110, true)), .prim ⟨none, (.binOp .eql 4 (tm 111) (tm 112) 4), 4, "", #[], none⟩⟩,
 oo 114 (.pick (tm 110) (tm 113) (kB false)),
 mo 115 (tm 114),
 ⟨(some 116), (some (115, true)), .mv (tm 12)⟩,
 ⟨(some 117), (some (115, true)), .mv (tm 9)⟩,
 ⟨(some 118), (some (115, true)), .call 27 [(tm 116), (tm 117)]⟩,
 oo 119 (.pick (tm 115) (tm 118) (kB false)),
 mo 120 (tm 119),
 ⟨(some 121), (some (120, true)), .mv (tm 14)⟩,
 ⟨(some 122), (some (120, true)), .mv (tm 10)⟩,
 ⟨(some 123), (some (120, true)), .call 27 [(tm 121), (tm 122)]⟩,
 oo 124 (.pick (tm 120) (tm 123) (kB false)),
 mo 125 (tm 124),
 ⟨(some 126), (some (125, true)), .call 17 []⟩,
 oo 127 (.pick (tm 125) (tm 126) (kB false)),
 mo 8 (tm 127)])
 (.seq (.keep [8])
 .ret)))))))))))))⟩

def lf5 : LFunc := ⟨2, [.tmp 4],
 (.seq (.reg [mo 4 (kB false)])
 (.seq (.seq (.reg [mo 11 (tm 1),
 ln 12 (tm 11) 9 3,
 b2 13 .gtr 3 (tm 12) (ki 100) 3 4])
 (.cond (tm 13) (.reg [mo 14 (tm 1),
 oo 15 (.slcs (tm 14) none (some (ki 100))),
 mo 1 (tm 15)])
 .skip))
 (.seq (.keep [0, 1])
 (.seq (.reg [mo 17 (tm 1),
 ca 18 29 [(tm 17)],
 mo 16 (tm 18),
 ex 19 (tm 16) 0,
 ex 20 (tm 16) 1,
 mo 5 (tm 19),
 mo 6 (tm 20)])
 (.seq (.reg [mo 22 (tm 1),
 ca 23 30 [(tm 22)],
 mo 21 (tm 23),
 ex 24 (tm 21) 0,
 ex 25 (tm 21) 1,
 mo 7 (tm 24),
 mo 8 (tm 25)])
 (.seq (.seq (.reg [mo 26 (tm 8),
 u1 27 .not 4 (tm 26) 4])
 (.cond (tm 27) (.reg [mo 7 (ku 0)])
 .skip))
 (.seq (.keep [0, 5, 6, 7, 8])
 (.seq (.reg [mo 29 (tm 0),
 ca 30 31 [(tm 29)],
 ca 31 29 [(tm 30)],
 mo 28 (tm 31),
 ex 32 (tm 28) 0,
 ex 33 (tm 28) 1,
 mo 9 (tm 32),
 mo 10 (tm 33)])
 (.seq (.keep [0, 5, 6, 7, 8, 9, 10])
 (.seq (.reg [mo 34 (tm 0),
 ca 35 31 [(tm 34)],
 mo 36 (tm 0),
 ca 37 32 [(tm 36)],
 b2 38 .eql 9 (tm 35) (tm 37) 9 4,
 mo 39 (tm 38),
 ⟨(some 40), (some (39, true)), .mv (tm 5)⟩,
 ⟨(some 41), (some (39, true)), .mv (tm 7)⟩,
 ⟨(some 42), (some (39, true)), .prim ⟨none, (.binOp .eql 22 (tm 40) (tm 41) 22), 4, "", #[], none⟩⟩,
 oo 43 (.pick (tm 39) (tm 42) (kB false)),
 mo 44 (tm 43),
 ⟨(some 45), (some (44, true)), .mv (tm 6)⟩,
 ⟨(some 46), (some (44, true)), .mv (tm 8)⟩,
 ⟨(some 47), (some (44, true)), .prim ⟨none, (.binOp .eql 4 (tm 45) (tm 46) 4), 4, "", #[], none⟩⟩,
 oo 48 (.pick (tm 44) (tm 47) (kB false)),
 mo 49 (tm 48),
 ⟨(some 50), (some (49, true)), .mv (tm 9)⟩,
 ⟨(some 51), (some (49, true)), .mv (tm 0)⟩,
 ⟨(some 52), (some (49, true)), .prim ⟨none, (.binOp .eql 22 (tm 50) (tm 51) 22), 4, "", #[], none⟩⟩,
 oo 53 (.pick (tm 49) (tm 52) (kB false)),
 mo 54 (tm 53),
 ⟨(some 55), (some (54, true)), .mv (tm 10)⟩,
 oo 56 (.pick (tm 54) (tm 55) (kB false)),
 mo 57 (tm 56),
 ⟨(some 58), (some (57, true)), .call 17 []⟩,
 oo 59 (.pick (tm 57) (tm 58) (kB false)),
 mo 4 (tm 59)])
 (.seq (.keep [4])
 .ret)))))))))))⟩

def lf6 : LFunc := ⟨0, [.tmp 0],
 (.seq (.reg [mo 0 (kB false)])
 (.seq (.reg [ca 37 18 [],
 mo 1 (tm 37)])
 (.seq (.reg [ca 38 19 [],
 oo 2 (.alloc [(.int .u32 0), (.int .u32 0), (.int .u32 0), (.int .u32 0), (.int .u32 0), (.int .u32 0), (.int .u32 0), (.int .u32 0), (.int .u32 0), (.int .u32 0), (.int .u32 0), (.int .u32 0), (.int .u32 0), (.int .u32 0), (.int .u32 0), (.int .u32 0), (.int .u32 0), (.int .u32 0), (.int .u32 0), (.int .u32 0), (.int .u32 0), (.int .u32 0), (.int .u32 0), (.int .u32 0), (.int .u32 0), (.int .u32 0), (.int .u32 0), (.int .u32 0), (.int .u32 0), (.int .u32 0), (.int .u32 0), (.int .u32 0), (.int .u32 0), (.int .u32 0), (.int .u32 0), (.int .u32 0), (.int .u32 0), (.int .u32 0), (.int .u32 0), (.int .u32 0), (.int .u32 0), (.int .u32 0), (.int .u32 0), (.int .u32 0), (.int .u32 0), (.int .u32 0), (.int .u32 0), (.int .u32 0), (.int .u32 0), (.int .u32 0), (.int .u32 0), (.int .u32 0), (.int .u32 0), (.int .u32 0), (.int .u32 0), (.int .u32 0), (.int .u32 0), (.int .u32 0), (.int .u32 0), (.int .u32 0), (.int .u32 0), (.int .u32 0), (.int .u32 0), (.int .u32 0), (.int .u32 0), (.int .u32 0), (.int .u32 0), (.int .u32 0), (.int .u32 0), (.int .u32 0), (.int .u32 0), (.int .u32 0), (.int .u32 0), (.int .u32 0), (.int .u32 0), (.int .u32 0), (.int .u32 0), (.int .u32 0), (.int .u32 0), (.int .u32 0), (.int .u32 0), (.int .u32 0), (.int .u32 0), (.int .u32 0), (.int .u32 0), (.int .u32 0), (.int .u32 0), (.int .u32 0), (.int .u32 0), (.int .u32 0), (.int .u32 0), (.int .u32 0), (.int .u32 0), (.int .u32 0), (.int .u32 0), (.int .u32 0), (.int .u32 0), (.int .u32 0), (.int .u32 0), (.int .u32 0), (.int .u32 0), (.int .u32 0), (.int .u32 0), (.int .u32 0), (.int .u32 0), (.int .u32 0), (.int .u32 0), (.int .u32 0), (.int .u32 0), (.int .u32 0), (.int .u32 0), (.int .u32 0), (.int .u32 0), (.int .u32 0), (.int .u32 0), (.int .u32 0), (.int .u32 0), (.int .u32 0), (.int .u32 0), (.int .u32 0), (.int .u32 0), (.int .u32 0), (.int .u32 0), (.int .u32 0), (.int .u32 0), (.int .u32 0), (.int .u32 0), (.int .u32 0), (.int .u32 0), (.int .u32 0), (.int .u32 0), (.int .u32 0), (.int .u32 0), (.int .u32 0), (.int .u32 0), (.int .u32 0), (.int .u32 0), (.int .u32 0), (.int .u32 0), (.int .u32 0), (.int .u32 0), (.int .u32 0), (.int .u32 0), (.int .u32 0), (.int .u32 0), (.int .u32 0), (.int .u32 0), (.int .u32 0), (.int .u32 0), (.int .u32 0), (.int .u32 0), (.int .u32 0), (.int .u32 0), (.int .u32 0), (.int .u32 0), (.int .u32 0), (.int .u32 0), (.int .u32 0), (.int .u32 0), (.int .u32 0), (.int .u32 0), (.int .u32 0), (.int .u32 0), (.int .u32 0), (.int .u32 0), (.int .u32 0), (.int .u32 0), (.int .u32 0), (.int .u32 0), (.int .u32 0), (.int .u32 0), (.int .u32 0), (.int .u32 0), (.int .u32 0), (.int .u32 0), (.int .u32 0), (.int .u32 0), (.int .u32 0), (.int .u32 0), (.int .u32 0), (.int .u32 0), (.int .u32 0), (.int .u32 0), (.int .u32 0), (.int .u32 0), (.int .u32 0), (.int .u32 0), (.int .u32 0), (.int .u32 0), (.int .u32 0), (.int .u32 0), (.int .u32 0), (.int .u32 0), (.int .u32 0), (.int .u32 0), (.int .u32 0), (.int .u32 0), (.int .u32 0), (.int .u32 0), (.int .u32 0), (.int .u32 0), (.int .u32 0), (.int .u32 0), (.int .u32 0), (.int .u32 0), (.int .u32 0), (.int .u32 0), (.int .u32 0), (.int .u32 0), (.int .u32 0), (.int .u32 0), (.int .u32 0), (.int .u32 0), (.int .u32 0), (.int .u32 0), (.int .u32 0), (.int .u32 0), (.int .u32 0), (.int .u32 0), (.int .u32 0), (.int .u32 0), (.int .u32 0), (.int .u32 0), (.int .u32 0), (.int .u32 0), (.int .u32 0), (.int .u32 0), (.int .u32 0), (.int .u32 0), (.int .u32 0), (.int .u32 0), (.int .u32 0), (.int .u32 0), (.int .u32 0), (.int .u32 0), (.int .u32 0), (.int .u32 0), (.int .u32 0), (.int .u32 0), (.int .u32 0), (.int .u32 0), (.int .u32 0), (.int .u32 0), (.int .u32 0), (.int .u32 0), (.int .u32 0), (.int .u32 0), (.int .u32 0), (.int .u32 0), (.int .u32 0), (.int .u32 0), (.int .u32 0), (.int .u32 0), (.int .u32 0), (.int .u32 0), (.int .u32 0)]),
 sr 256 (tm 2) (tm 38)])
 (.seq (.reg [ca 39 33 [(ku 5), (kb 2)],
 oo 3 (.alloc [(.int .u8 0), (.int .u64 0), (.int .u8 0), (.int .u64 0), (.int .u64 0), (.int .u8 0), (.int .u8 0), (.int .u8 0), (.int .u8 0), (.int .u8 0), (.int .u8 0), (.int .u8 0), (.int .u8 0), (.int .u8 0), (.int .u8 0), (.string ⟨#[]⟩)]),
 sr 16 (tm 3) (tm 39)])
 (.seq (.reg [ca 41 29 [(.const (.string ⟨#[115, 101, 103, 46, 48, 48, 48, 48, 48, 48, 48, 55]⟩))],
 mo 40 (tm 41),
 ex 42 (tm 40) 0,
 ex 43 (tm 40) 1,
 mo 4 (tm 42),
 mo 5 (tm 43)])
 (.seq (.reg [ca 45 29 [(.const (.string ⟨#[115, 101, 103, 46, 55]⟩))],
 mo 44 (tm 45),
 ex 46 (tm 44) 0,
 ex 47 (tm 44) 1,
 mo 6 (tm 46),
 mo 7 (tm 47)])
 (.seq (.reg [mo 49 (tm 1),
 l2 50 16 (tm 3),
 oo 51 (.bslice 16 1 [(.int .u8 0), (.int .u64 0), (.int .u8 0), (.int .u64 0), (.int .u64 0), (.int .u8 0), (.int .u8 0), (.int .u8 0), (.int .u8 0), (.int .u8 0), (.int .u8 0), (.int .u8 0), (.int .u8 0), (.int .u8 0), (.int .u8 0), (.string ⟨#[]⟩)] [(0, 16, (tm 50))]),
 ca 52 21 [(tm 49), (tm 2), (ku 1), (ku 0), (tm 51)],
 mo 48 (tm 52),
 ex 53 (tm 48) 0,
 ex 54 (tm 48) 1,
 mo 8 (tm 53),
 mo 9 (tm 54)])
 (.seq (.keep [1, 2, 3, 4, 5, 7, 8, 9])
 (.seq (.seq (.reg [ca 55 31 [(ku 7)],
 b2 56 .neq 9 (tm 55) (.const (.string ⟨#[115, 101, 103, 46, 48, 48, 48, 48, 48, 48, 48, 55]⟩)) 9 4,
 mo 57 (tm 56),
 ⟨(some 58), (some (57, false)), .mv (tm 4)⟩,
 ⟨(some 59), (some (57, false)), .prim ⟨none, (.binOp .neq 22 (tm 58) (ku 7) 22), 4, "", #[], none⟩⟩,
 oo 60 (.pick (tm 57) (kB true) (tm 59)),
 mo 61 (tm 60),
 ⟨(some 62), (some (61, false)), .mv (tm 5)⟩,
 ⟨(some 63), (some (61, false)), .prim ⟨none, (.unOp .not 4 (tm 62)), 4, "", #[], none⟩⟩,
 oo 64 (.pick (tm 61) (kB true) (tm 63)),
 mo 65 (tm 64),
 ⟨(some 66), (some (65, false)), .mv (tm 7)⟩,
 oo 67 (.pick (tm 65) (kB true) (tm 66)),
 mo 68 (tm 67),
 ⟨(some 69), (some (68, false)), .mv (tm 9)⟩,
 ⟨(some 70), (some (68, false)), .prim ⟨none, (.binOp .neq 39 (tm 69) (ki 0) 39), 4, "", #[], none⟩⟩,
 oo 71 (.pick (tm 68) (kB true) (tm 70)),
 mo 72 (tm 71),
 ⟨(some 73), (some (72, false)), .mv (tm 8)⟩,
 ⟨(some 74), (some (72, false)), .cmpref 0 false (tm 73) (.const (.pointer none))⟩,
 oo 75 (.pick (tm 72) (kB true) (tm 74))])
 (.seq (.keep [1, 2, 3, 8, 75])
 (.cond (tm 75) (.seq (.reg [mo 0 (kB false)])
 .ret)
 .skip)))
 (.seq (.keep [1, 2, 3, 8])
 (.seq (.reg [mo 77 (tm 1),
 ca 78 26 [(tm 77), (tm 2), (ku 1)],
 mo 76 (tm 78),
 ex 79 (tm 76) 0,
 ex 80 (tm 76) 1,
 ex 81 (tm 76) 2,
 ex 82 (tm 76) 3,
 mo 10 (tm 79),
 mo 11 (tm 80),
 mo 12 (tm 81),
 mo 13 (tm 82)])
 (.seq (.keep [1, 2, 3, 8, 10, 11, 12, 13])
 (.seq (.reg [mo 83 (tm 1),
 ca 84 34 [(tm 83)],
 mo 14 (tm 84)])
 (.seq (.seq (.dreg [mo 85 (tm 10),
 b2 86 .neq 22 (tm 85) (ku 0) 22 4,
 mo 87 (tm 86),
 ⟨(some 88), (some (87, false)), .mv (tm 11)⟩,
 ⟨(some 89), (some (87, false)), .len false (tm 88)⟩,
 ⟨(some 90), (some (87, false)), .prim ⟨none, (.binOp .neq 3 (tm 89) (ki 1) 3), 4, "", #[], none⟩⟩,
 oo 91 (.pick (tm 87) (kB true) (tm 90)),
 mo 92 (tm 91),
 ⟨(some 93), (some (92, false)), .mv (tm 11)⟩,
 ⟨(some 94), (some (92, false)), .iadrs 16 (tm 93) (ki 0)⟩,
 ⟨(some 95), (some (92, false)), .ldn 16 (tm 94)⟩,
 ⟨(some 96), (some (92, false)), .ldn 16 (tm 3)⟩,
 ⟨(some 97), (some (92, false)), .prim ⟨none, (.binOp .neq 56 (tm 95) (tm 96) 56), 4, "", #[], none⟩⟩,
 oo 98 (.pick (tm 92) (kB true) (tm 97)),
 mo 99 (tm 98),
 ⟨(some 100), (some (99, false)), .mv (tm 12)⟩,
 ⟨(some 101), (some (99, false)), .prim ⟨none, (.unOp .not 4 (tm 100)), 4, "", #[], none⟩⟩,
 oo 102 (.pick (tm 99) (kB true) (tm 101)),
 mo 103 (tm 102),
 ⟨(some 104), (some (103, false)), .mv (tm 13)⟩,
 ⟨(some 105), (some (103, false)), .prim ⟨none, (.binOp .neq 39 (tm 104) (ki 0) 39), 4, "", #[], none⟩⟩,
 oo 106 (.pick (tm 103) (kB true) (tm 105)),
 mo 107 (tm 106),
 ⟨(some 108), (some (107, false)), .mv (tm 14)⟩,
 ⟨(some 109), (some (107, false)), .len false (tm 108)⟩,
 ⟨(some 110), (some (107, false)), .prim ⟨none, (.binOp .neq 3 (tm 109) (ki 1) 3), 4, "", #[], none⟩⟩,
 oo 111 (.pick (tm 107) (kB true) (tm 110)),
 mo 112 (tm 111),
 ⟨(some 113), (some (112, false)), .mv (tm 14)⟩,
 ⟨(some 114), (some (112, false)), .iadrs 1 (tm 113) (ki 0)⟩,
 ⟨(some 115), (some (112, false)), .ld1 (tm 114)⟩,
 ⟨(some 116), (some (112, false)), .prim ⟨none, (.binOp .neq 22 (tm 115) (ku 1) 22), 4, "", #[], none⟩⟩,
 oo 117 (.pick (tm 112) (kB true) (tm 116))] [])
 (.seq (.keep [1, 2, 3, 8, 117])
 (.cond (tm 117) (.seq (.reg [mo 0 (kB false)])
 .ret)
 .skip)))
 (.seq (.keep [1, 2, 3, 8])
 (.seq (.reg [mo 118 (tm 8),
 l2 119 16 (tm 3),
 l2 120 16 (tm 3),
 oo 121 (.bslice 16 2 [(.int .u8 0), (.int .u64 0), (.int .u8 0), (.int .u64 0), (.int .u64 0), (.int .u8 0), (.int .u8 0), (.int .u8 0), (.int .u8 0), (.int .u8 0), (.int .u8 0), (.int .u8 0), (.int .u8 0), (.int .u8 0), (.int .u8 0), (.string ⟨#[]⟩)] [(0, 16, (tm 119)), (16, 16, (tm 120))]),
 ca 122 23 [(tm 118), (tm 121)],
 mo 15 (tm 122)])
 (.seq (.reg [mo 123 (tm 8),
 ca 124 35 [(tm 123)],
 mo 16 (tm 124)])
 (.seq (.reg [mo 125 (tm 8),
 l2 126 16 (tm 3),
 oo 127 (.build [(.int .u8 0), (.int .u64 0), (.int .u8 0), (.int .u64 0), (.int .u64 0), (.int .u8 0), (.int .u8 0), (.int .u8 0), (.int .u8 0), (.int .u8 0), (.int .u8 0), (.int .u8 0), (.int .u8 0), (.int .u8 0), (.int .u8 0), (.string ⟨#[]⟩)] [(0, 1, (kb 9))]),
 oo 128 (.bslice 16 2 [(.int .u8 0), (.int .u64 0), (.int .u8 0), (.int .u64 0), (.int .u64 0), (.int .u8 0), (.int .u8 0), (.int .u8 0), (.int .u8 0), (.int .u8 0), (.int .u8 0), (.int .u8 0), (.int .u8 0), (.int .u8 0), (.int .u8 0), (.string ⟨#[]⟩)] [(0, 16, (tm 126)), (16, 16, (tm 127))]),
 ca 129 23 [(tm 125), (tm 128)],
 mo 17 (tm 129)])
 (.seq (.reg [mo 131 (tm 1),
 ca 132 21 [(tm 131), (tm 2), (ku 1), (ku 0), (.const (.slice none 0 0))],
 mo 130 (tm 132),
 ex 133 (tm 130) 0,
 ex 134 (tm 130) 1,
 mo 18 (tm 133),
 mo 19 (tm 134)])
 (.seq (.reg [mo 136 (tm 1),
 oo 137 (.build [(.int .u64 0), (.int .u64 0), (.int .u8 0), (.int .u8 0), (.int .u8 0), (.int .u8 0), (.int .u8 0), (.int .u8 0), (.int .u8 0), (.int .u8 0), (.int .u8 0), (.int .u8 0), (.string ⟨#[]⟩)] [(0, 1, (ku 1))]),
 oo 138 (.build [(.int .u8 0), (.int .u64 0), (.int .u8 0), (.int .u64 0), (.int .u64 0), (.int .u8 0), (.int .u8 0), (.int .u8 0), (.int .u8 0), (.int .u8 0), (.int .u8 0), (.int .u8 0), (.int .u8 0), (.int .u8 0), (.int .u8 0), (.string ⟨#[]⟩)] [(0, 1, (kb 2)), (3, 13, (tm 137))]),
 oo 139 (.bslice 16 1 [(.int .u8 0), (.int .u64 0), (.int .u8 0), (.int .u64 0), (.int .u64 0), (.int .u8 0), (.int .u8 0), (.int .u8 0), (.int .u8 0), (.int .u8 0), (.int .u8 0), (.int .u8 0), (.int .u8 0), (.int .u8 0), (.int .u8 0), (.string ⟨#[]⟩)] [(0, 16, (tm 138))]),
 ca 140 21 [(tm 136), (tm 2), (ku 2), (ku 0), (tm 139)],
 mo 135 (tm 140),
 ex 141 (tm 135) 0,
 ex 142 (tm 135) 1,
 mo 20 (tm 141),
 mo 21 (tm 142)])
 (.seq (.keep [1, 2, 3, 8, 15, 16, 17, 19, 21])
 (.seq (.reg [ca 144 21 [(.const (.pointer none)), (tm 2), (ku 2), (ku 0), (.const (.slice none 0 0))],
 mo 143 (tm 144),
 ex 145 (tm 143) 0,
 ex 146 (tm 143) 1,
 mo 22 (tm 145),
 mo 23 (tm 146)])
 (.seq (.reg [mo 148 (tm 1),
 ca 149 21 [(tm 148), (.const (.pointer none)), (ku 2), (ku 0), (.const (.slice none 0 0))],
 mo 147 (tm 149),
 ex 150 (tm 147) 0,
 ex 151 (tm 147) 1,
 mo 24 (tm 150),
 mo 25 (tm 151)])
 (.seq (.reg [mo 153 (tm 1),
 ca 154 26 [(tm 153), (tm 2), (ku 9)],
 mo 152 (tm 154),
 ex 155 (tm 152) 0,
 ex 156 (tm 152) 1,
 ex 157 (tm 152) 2,
 ex 158 (tm 152) 3,
 mo 26 (tm 155),
 mo 27 (tm 156),
 mo 28 (tm 157),
 mo 29 (tm 158)])
 (.seq (.keep [1, 2, 3, 8, 15, 16, 17, 19, 21, 23, 25, 29])
 (.seq (.reg [ca 160 26 [(.const (.pointer none)), (tm 2), (ku 1)],
 mo 159 (tm 160),
 ex 161 (tm 159) 0,
 ex 162 (tm 159) 1,
 ex 163 (tm 159) 2,
 ex 164 (tm 159) 3,
 mo 30 (tm 161),
 mo 31 (tm 162),
 mo 32 (tm 163),
 mo 33 (tm 164)])
 (.seq (.keep [1, 3, 8, 15, 16, 17, 19, 21, 23, 25, 29, 33])
 (.seq (.reg [mo 166 (tm 1),
 ca 167 31 [(ku 1)],
 ca 168 36 [(tm 166), (tm 167)],
 mo 165 (tm 168),
 ex 169 (tm 165) 0,
 ex 170 (tm 165) 1,
 mo 34 (tm 169),
 mo 35 (tm 170)])
 (.seq (.keep [3, 8, 15, 16, 17, 19, 21, 23, 25, 29, 33, 34])
 (.seq (.reg [mo 36 (.const (.pointer none))])
 (.seq (.reg [mo 171 (tm 15),
 b2 172 .eql 39 (tm 171) (ki 0) 39 4,
 mo 173 (tm 172),
 ⟨(some 174), (some (173, true)), .mv (tm 16)⟩,
 ⟨(some 175), (some (173, true)), .prim ⟨none, (.binOp .eql 3 (tm 174) (ki 2) 3), 4, "", #[], none⟩⟩,
 oo 176 (.pick (tm 173) (tm 175) (kB false)),
 mo 177 (tm 176),
 ⟨(some 178), (some (177, true)), .mv (tm 17)⟩,
 ⟨(some 179), (some (177, true)), .prim ⟨none, (.binOp .eql 39 (tm 178) (ki 1) 39), 4, "", #[], none⟩⟩,
 oo 180 (.pick (tm 177) (tm 179) (kB false)),
 mo 181 (tm 180),
 ⟨(some 182), (some (181, true)), .mv (tm 8)⟩,
 ⟨(some 183), (some (181, true)), .call 35 [(tm 182)]⟩,
 ⟨(some 184), (some (181, true)), .prim ⟨none, (.binOp .eql 3 (tm 183) (ki 2) 3), 4, "", #[], none⟩⟩,
 oo 185 (.pick (tm 181) (tm 184) (kB false)),
 mo 186 (tm 185),
 ⟨(some 187), (some (186, true)), .mv (tm 19)⟩,
 ⟨(some 188), (some (186, true)), .prim ⟨none, (.binOp .eql 39 (tm 187) (ki 5) 39), 4, "", #[], none⟩⟩,
 oo 189 (.pick (tm 186) (tm 188) (kB false)),
 mo 190 (tm 189),
 ⟨(some 191), (some (190, true)), .mv (tm 21)⟩,
 ⟨(some 192), (some (190, true)), .prim ⟨none, (.binOp .eql 39 (tm 191) (ki 1) 39), 4, "", #[], none⟩⟩,
 oo 193 (.pick (tm 190) (tm 192) (kB false)),
 mo 194 (tm 193),
 ⟨(some 195), (some (194, true)), .mv (tm 23)⟩,
 ⟨(some 196), (some (194, true)), .prim ⟨none, (.binOp .eql 39 (tm 195) (ki 2) 39), 4, "", #[], none⟩⟩,
 oo 197 (.pick (tm 194) (tm 196) (kB false)),
 mo 198 (tm 197),
 ⟨(some 199), (some (198, true)), .mv (tm 25)⟩,
 ⟨(some 200), (some (198, true)), .prim ⟨none, (.binOp .eql 39 (tm 199) (ki 2) 39), 4, "", #[], none⟩⟩,
 oo 201 (.pick (tm 198) (tm 200) (kB false)),
 mo 202 (tm 201),
 ⟨(some 203), (some (202, true)), .mv (tm 29)⟩,
 ⟨(some 204), (some (202, true)), .prim ⟨none, (.binOp .eql 39 (tm 203) (ki 4) 39), 4, "", #[], none⟩⟩,
 oo 205 (.pick (tm 202) (tm 204) (kB false)),
 mo 206 (tm 205),
 ⟨(some 207), (some (206, true)), .mv (tm 33)⟩,
 ⟨(some 208), (some (206, true)), .prim ⟨none, (.binOp .eql 39 (tm 207) (ki 2) 39), 4, "", #[], none⟩⟩,
 oo 209 (.pick (tm 206) (tm 208) (kB false)),
 mo 210 (tm 209),
 ⟨(some 211), (some (210, true)), .mv (tm 36)⟩,
 ⟨(some 212), (some (210, true)), .ldn 16 (tm 3)⟩,
 ⟨(some 213), (some (210, true)), .bslice 16 1 [(.int .u8 0), (.int .u64 0), (.int .u8 0), (.int .u64 0), (.int .u64 0), (.int .u8 0), (.int .u8 0), (.int .u8 0), (.int .u8 0), (.int .u8 0), (.int .u8 0), (.int .u8 0), (.int .u8 0), (.int .u8 0), (.int .u8 0), (.string ⟨#[]⟩)] [(0, 16, (tm 212))]⟩,
 ⟨(some 214), (some (210, true)), .call 23 [(tm 211), (tm 213)]⟩,
 ⟨(some 215), (some (210, true)), .prim ⟨none, (.binOp .eql 39 (tm 214) (ki 2) 39), 4, "", #[], none⟩⟩,
 oo 216 (.pick (tm 210) (tm 215) (kB false)),
 mo 217 (tm 216),
 ⟨(some 218), (some (217, true)), .build [(.pointer none), (.pointer none), (.int .u64 0), (.int .i64 0)] []⟩,
 ⟨(some 219), (some (217, true)), .box (tm 218)⟩,
 ⟨(some 220), (some (217, true)), .ldn 16 (tm 3)⟩,
 ⟨(some 221), (some (217, true)), .bslice 16 1 [(.int .u8 0), (.int .u64 0), (.int .u8 0), (.int .u64 0), (.int .u64 0), (.int .u8 0), (.int .u8 0), (.int .u8 0), (.int .u8 0), (.int .u8 0), (.int .u8 0), (.int .u8 0), (.int .u8 0), (.int .u8 0), (.int .u8 0), (.string ⟨#[]⟩)] [(0, 16, (tm 220))]⟩,
 ⟨(some 222), (some (217, true)), .call 23 [(tm 219), (tm 221)]⟩,
 ⟨(some 223), (some (217, true)), .prim ⟨none, (.binOp .eql 39 (tm 222) (ki 2) 39), 4, "", #[], none⟩⟩,
 oo 224 (.pick (tm 217) (tm 223) (kB false)),
 mo 225 (tm 224),
 ⟨(some 226), (some (225, true)), .mv (tm 36)⟩,
 ⟨(some 227), (some (225, true)), .call 37 [(tm 226)]⟩,
 ⟨(some 228), (some (225, true)), .prim ⟨none, (.binOp .eql 22 (tm 227) (ku 0) 22), 4, "", #[], none⟩⟩,
 oo 229 (.pick (tm 225) (tm 228) (kB false)),
 mo 230 (tm 229),
 ⟨(some 231), (some (230, true)), .mv (tm 36)⟩,
 ⟨(some 232), (some (230, true)), .call 35 [(tm 231)]⟩,
 ⟨(some 233), (some (230, true)), .prim ⟨none, (.binOp .eql 3 (tm 232) (ki 0) 3), 4, "", #[], none⟩⟩,
 oo 234 (.pick (tm 230) (tm 233) (kB false)),
 mo 235 (tm 234),
 ⟨(some 236), (some (235, true)), .call 34 [(.const (.pointer none))]⟩,
 ⟨(some 237), (some (235, true)), .len false (tm 236)⟩,
 ⟨(some 238), (some (235, true)), .prim ⟨none, (.binOp .eql 3 (tm 237) (ki 0) 3), 4, "", #[], none⟩⟩,
 oo 239 (.pick (tm 235) (tm 238) (kB false)),
 mo 240 (tm 239),
 ⟨(some 241), (some (240, true)), .mv (tm 34)⟩,
 ⟨(some 242), (some (240, true)), .prim ⟨none, (.call ⟨.builtin .len, #[(tm 241)], #[9]⟩), 3, "", #[], none⟩⟩,
 ⟨(some 243), (some (240, true)), .prim ⟨none, (.binOp .eql 3 (tm 242) (ki 32) 3), 4, "", #[], none⟩⟩,
 oo 244 (.pick (tm 240) (tm 243) (kB false)),
 mo 245 (tm 244),
 ⟨(some 246), (some (245, true)), .mv (tm 34)⟩,
 ⟨(some 247), (some (245, true)), .prim ⟨none, (.index 9 (tm 246) (ki 0)), 5, "", #[], none⟩⟩,
 ⟨(some 248), (some (245, true)), .prim ⟨none, (.binOp .eql 5 (tm 247) (kb 3) 5), 4, "", #[], none⟩⟩,
 oo 249 (.pick (tm 245) (tm 248) (kB false)),
 mo 250 (tm 249),
 ⟨(some 251), (some (250, true)), .mv (tm 34)⟩,
 ⟨(some 252), (some (250, true)), .slcs (tm 251) (some (ki 5)) (some (ki 8))⟩,
 ⟨(some 253), (some (250, true)), .prim ⟨none, (.binOp .eql 9 (tm 252) (.const (.string ⟨#[1, 1, 0]⟩)) 9), 4, "", #[], none⟩⟩,
 oo 254 (.pick (tm 250) (tm 253) (kB false)),
 mo 255 (tm 254),
 ⟨(some 256), (some (255, true)), .mv (tm 34)⟩,
 ⟨(some 257), (some (255, true)), .slcs (tm 256) (some (ki 13)) (some (ki 16))⟩,
 ⟨(some 258), (some (255, true)), .prim ⟨none, (.binOp .eql 9 (tm 257) (.const (.string ⟨#[2, 5, 2]⟩)) 9), 4, "", #[], none⟩⟩,
 oo 259 (.pick (tm 255) (tm 258) (kB false)),
 mo 260 (tm 259),
 ⟨(some 261), (some (260, true)), .call 17 []⟩,
 oo 262 (.pick (tm 260) (tm 261) (kB false)),
 mo 0 (tm 262)])
 (.seq (.keep [0])
 .ret))))))))))))))))))))))))))))))))⟩

def lf7 : LFunc := ⟨4, [.tmp 8],
 (.seq (.reg [oo 7 (.box (tm 3)),
 mo 8 (kB false)])
 (.seq (.seq (.reg [mo 18 (tm 1),
 ca 19 15 [(tm 18)],
 mo 20 (tm 19),
 ⟨(some 21), (some (20, false)), .ldn 2 (tm 7)⟩,
 ⟨(some 22), (some (20, false)), .call 16 [(tm 21)]⟩,
 oo 23 (.pick (tm 20) (kB true) (tm 22))])
 (.cond (tm 23) (.seq (.reg [ca 24 17 [],
 mo 8 (tm 24)])
 .ret)
 .skip))
 (.seq (.keep [0, 1, 2, 7])
 (.seq (.reg [ca 25 18 [],
 mo 9 (tm 25)])
 (.seq (.reg [ca 26 19 [],
 oo 10 (.alloc [(.int .u32 0), (.int .u32 0), (.int .u32 0), (.int .u32 0), (.int .u32 0), (.int .u32 0), (.int .u32 0), (.int .u32 0), (.int .u32 0), (.int .u32 0), (.int .u32 0), (.int .u32 0), (.int .u32 0), (.int .u32 0), (.int .u32 0), (.int .u32 0), (.int .u32 0), (.int .u32 0), (.int .u32 0), (.int .u32 0), (.int .u32 0), (.int .u32 0), (.int .u32 0), (.int .u32 0), (.int .u32 0), (.int .u32 0), (.int .u32 0), (.int .u32 0), (.int .u32 0), (.int .u32 0), (.int .u32 0), (.int .u32 0), (.int .u32 0), (.int .u32 0), (.int .u32 0), (.int .u32 0), (.int .u32 0), (.int .u32 0), (.int .u32 0), (.int .u32 0), (.int .u32 0), (.int .u32 0), (.int .u32 0), (.int .u32 0), (.int .u32 0), (.int .u32 0), (.int .u32 0), (.int .u32 0), (.int .u32 0), (.int .u32 0), (.int .u32 0), (.int .u32 0), (.int .u32 0), (.int .u32 0), (.int .u32 0), (.int .u32 0), (.int .u32 0), (.int .u32 0), (.int .u32 0), (.int .u32 0), (.int .u32 0), (.int .u32 0), (.int .u32 0), (.int .u32 0), (.int .u32 0), (.int .u32 0), (.int .u32 0), (.int .u32 0), (.int .u32 0), (.int .u32 0), (.int .u32 0), (.int .u32 0), (.int .u32 0), (.int .u32 0), (.int .u32 0), (.int .u32 0), (.int .u32 0), (.int .u32 0), (.int .u32 0), (.int .u32 0), (.int .u32 0), (.int .u32 0), (.int .u32 0), (.int .u32 0), (.int .u32 0), (.int .u32 0), (.int .u32 0), (.int .u32 0), (.int .u32 0), (.int .u32 0), (.int .u32 0), (.int .u32 0), (.int .u32 0), (.int .u32 0), (.int .u32 0), (.int .u32 0), (.int .u32 0), (.int .u32 0), (.int .u32 0), (.int .u32 0), (.int .u32 0), (.int .u32 0), (.int .u32 0), (.int .u32 0), (.int .u32 0), (.int .u32 0), (.int .u32 0), (.int .u32 0), (.int .u32 0), (.int .u32 0), (.int .u32 0), (.int .u32 0), (.int .u32 0), (.int .u32 0), (.int .u32 0), (.int .u32 0), (.int .u32 0), (.int .u32 0), (.int .u32 0), (.int .u32 0), (.int .u32 0), (.int .u32 0), (.int .u32 0), (.int .u32 0), (.int .u32 0), (.int .u32 0), (.int .u32 0), (.int .u32 0), (.int .u32 0), (.int .u32 0), (.int .u32 0), (.int .u32 0), (.int .u32 0), (.int .u32 0), (.int .u32 0), (.int .u32 0), (.int .u32 0), (.int .u32 0), (.int .u32 0), (.int .u32 0), (.int .u32 0), (.int .u32 0), (.int .u32 0), (.int .u32 0), (.int .u32 0), (.int .u32 0), (.int .u32 0), (.int .u32 0), (.int .u32 0), (.int .u32 0), (.int .u32 0), (.int .u32 0), (.int .u32 0), (.int .u32 0), (.int .u32 0), (.int .u32 0), (.int .u32 0), (.int .u32 0), (.int .u32 0), (.int .u32 0), (.int .u32 0), (.int .u32 0), (.int .u32 0), (.int .u32 0), (.int .u32 0), (.int .u32 0), (.int .u32 0), (.int .u32 0), (.int .u32 0), (.int .u32 0), (.int .u32 0), (.int .u32 0), (.int .u32 0), (.int .u32 0), (.int .u32 0), (.int .u32 0), (.int .u32 0), (.int .u32 0), (.int .u32 0), (.int .u32 0), (.int .u32 0), (.int .u32 0), (.int .u32 0), (.int .u32 0), (.int .u32 0), (.int .u32 0), (.int .u32 0), (.int .u32 0), (.int .u32 0), (.int .u32 0), (.int .u32 0), (.int .u32 0), (.int .u32 0), (.int .u32 0), (.int .u32 0), (.int .u32 0), (.int .u32 0), (.int .u32 0), (.int .u32 0), (.int .u32 0), (.int .u32 0), (.int .u32 0), (.int .u32 0), (.int .u32 0), (.int .u32 0), (.int .u32 0), (.int .u32 0), (.int .u32 0), (.int .u32 0), (.int .u32 0), (.int .u32 0), (.int .u32 0), (.int .u32 0), (.int .u32 0), (.int .u32 0), (.int .u32 0), (.int .u32 0), (.int .u32 0), (.int .u32 0), (.int .u32 0), (.int .u32 0), (.int .u32 0), (.int .u32 0), (.int .u32 0), (.int .u32 0), (.int .u32 0), (.int .u32 0), (.int .u32 0), (.int .u32 0), (.int .u32 0), (.int .u32 0), (.int .u32 0), (.int .u32 0), (.int .u32 0), (.int .u32 0), (.int .u32 0), (.int .u32 0), (.int .u32 0), (.int .u32 0), (.int .u32 0), (.int .u32 0), (.int .u32 0), (.int .u32 0), (.int .u32 0), (.int .u32 0), (.int .u32 0), (.int .u32 0), (.int .u32 0), (.int .u32 0), (.int .u32 0), (.int .u32 0), (.int .u32 0), (.int .u32 0), (.int .u32 0), (.int .u32 0), (.int .u32 0)]),
 sr 256 (tm 10) (tm 26)])
 (.seq (.reg [mo 27 (tm 1),
 ca 28 20 [(tm 27)],
 mo 11 (tm 28)])
 (.seq (.reg [mo 29 (tm 9),
 mo 30 (tm 2),
 b2 31 .rem 5 (tm 30) (kb 50) 5 5,
 cv 32 5 3 (tm 31) 3,
 ca 33 22 [(tm 29), (tm 32)]])
 (.seq (.reg [mo 35 (tm 9),
 mo 36 (tm 0),
 mo 37 (tm 11),
 ca 38 21 [(tm 35), (tm 10), (ku 7), (tm 36), (tm 37)],
 mo 34 (tm 38),
 ex 39 (tm 34) 0,
 ex 40 (tm 34) 1,
 mo 12 (tm 39),
 mo 13 (tm 40)])
 (.seq (.keep [0, 2, 7, 9, 10, 11, 13])
 (.seq (.seq (.reg [mo 41 (tm 13),
 b2 42 .eql 39 (tm 41) (ki 0) 39 4])
 (.cond (tm 42) (.seq (.reg [mo 43 (tm 2),
 b2 44 .rem 5 (tm 43) (kb 50) 5 5,
 b2 45 .eql 5 (tm 44) (kb 0) 5 4,
 mo 46 (tm 45),
 ⟨(some 47), (some (46, false)), .mv (tm 2)⟩,
 ⟨(some 48), (some (46, false)), .prim ⟨none, (.binOp .rem 5 (tm 47) (kb 50) 5), 5, "", #[], none⟩⟩,
 ⟨(some 49), (some (46, false)), .prim ⟨none, (.convert 5 3 (tm 48)), 3, "", #[], none⟩⟩,
 ⟨(some 50), (some (46, false)), .mv (tm 11)⟩,
 ⟨(some 51), (some (46, false)), .len false (tm 50)⟩,
 ⟨(some 52), (some (46, false)), .prim ⟨none, (.binOp .add 3 (tm 51) (ki 2) 3), 3, "", #[], none⟩⟩,
 ⟨(some 53), (some (46, false)), .prim ⟨none, (.binOp .gtr 3 (tm 49) (tm 52) 3), 4, "", #[], none⟩⟩,
 oo 54 (.pick (tm 46) (kB true) (tm 53)),
 mo 55 (tm 54),
 ⟨(some 56), (some (55, true)), .call 17 []⟩,
 oo 57 (.pick (tm 55) (tm 56) (kB false)),
 mo 8 (tm 57)])
 (.seq (.keep [8])
 .ret))
 .skip))
 (.seq (.keep [0, 7, 9, 10, 11, 13])
 (.seq (.reg [mo 58 (tm 9),
 l2 59 2 (tm 7),
 ca 60 24 [(tm 58), (tm 59)]])
 (.seq (.reg [mo 61 (tm 9),
 ca 62 25 [(tm 61)]])
 (.seq (.reg [mo 64 (tm 9),
 ca 65 26 [(tm 64), (tm 10), (ku 7)],
 mo 63 (tm 65),
 ex 66 (tm 63) 0,
 ex 67 (tm 63) 1,
 ex 68 (tm 63) 2,
 ex 69 (tm 63) 3,
 mo 14 (tm 66),
 mo 15 (tm 67),
 mo 16 (tm 68),
 mo 17 (tm 69)])
 (.seq (.keep [0, 9, 11, 13, 14, 15, 16, 17])
 (.seq (.seq (.reg [mo 70 (tm 13),
 b2 71 .neq 39 (tm 70) (ki 7) 39 4,
 mo 72 (tm 71),
 ⟨(some 73), (some (72, false)), .mv (tm 17)⟩,
 ⟨(some 74), (some (72, false)), .prim ⟨none, (.binOp .neq 39 (tm 73) (ki 0) 39), 4, "", #[], none⟩⟩,
 ⟨(some 75), (some (72, false)), .mv (tm 74)⟩,
 ⟨(some 76), (some (75, true)), .mv (tm 17)⟩,
 ⟨(some 77), (some (75, true)), .prim ⟨none, (.binOp .neq 39 (tm 76) (ki 4) 39), 4, "", #[], none⟩⟩,
 ⟨(some 78), (some (72, false)), .pick (tm 75) (tm 77) (kB false)⟩,
 oo 79 (.pick (tm 72) (kB true) (tm 78)),
 mo 80 (tm 79),
 ⟨(some 81), (some (80, false)), .mv (tm 17)⟩,
 ⟨(some 82), (some (80, false)), .prim ⟨none, (.binOp .eql 39 (tm 81) (ki 4) 39), 4, "", #[], none⟩⟩,
 ⟨(some 83), (some (80, false)), .mv (tm 82)⟩,
 ⟨(some 84), (some (83, true)), .mv (tm 9)⟩,
 ⟨(some 85), (some (83, true)), .call 34 [(tm 84)]⟩,
 ⟨(some 86), (some (83, true)), .len false (tm 85)⟩,
 ⟨(some 87), (some (83, true)), .prim ⟨none, (.binOp .neq 3 (tm 86) (ki 0) 3), 4, "", #[], none⟩⟩,
 ⟨(some 88), (some (80, false)), .pick (tm 83) (tm 87) (kB false)⟩,
 oo 89 (.pick (tm 80) (kB true) (tm 88))])
 (.seq (.keep [0, 9, 11, 14, 15, 16, 17, 89])
 (.cond (tm 89) (.seq (.reg [mo 8 (kB false)])
 .ret)
 .skip)))
 (.seq (.keep [0, 9, 11, 14, 15, 16, 17])
 (.seq (.reg [mo 90 (tm 15),
 mo 91 (tm 11),
 ca 92 27 [(tm 90), (tm 91)],
 mo 93 (tm 92),
 ⟨(some 94), (some (93, true)), .mv (tm 16)⟩,
 ⟨(some 95), (some (93, true)), .mv (tm 17)⟩,
 ⟨(some 96), (some (93, true)), .prim ⟨none, (.binOp .eql 39 (tm 95) (ki 0) 39), 4, "", #[], none⟩⟩,
 ⟨(some 97), (some (93, true)), .mv (tm 96)⟩,
 ⟨(some 98), (some (97, true)), .mv (tm 15)⟩,
 ⟨(some 99), (some (97, true)), .len false (tm 98)⟩,
 ⟨(some 100), (some (97, true)), .mv (tm 11)⟩,
 ⟨(some 101), (some (97, true)), .len false (tm 100)⟩,
 ⟨(some 102), (some (97, true)), .prim ⟨none, (.binOp .eql 3 (tm 99) (tm 101) 3), 4, "", #[], none⟩⟩,
 ⟨(some 103), (some (93, true)), .pick (tm 97) (tm 102) (kB false)⟩,
 ⟨(some 104), (some (93, true)), .mv (tm 103)⟩,
 ⟨(some 105), (some (104, true)), .mv (tm 9)⟩,
 ⟨(some 106), (some (104, true)), .call 38 [(tm 105)]⟩,
 ⟨(some 107), (some (93, true)), .pick (tm 104) (tm 106) (kB false)⟩,
 ⟨(some 108), (some (93, true)), .prim ⟨none, (.binOp .eql 4 (tm 94) (tm 107) 4), 4, "", #[], none⟩⟩,
 oo 109 (.pick (tm 93) (tm 108) (kB false)),
 mo 110 (tm 109),
 ⟨(some 111), (some (110, true)), .mv (tm 16)⟩,
 ⟨(some 112), (some (110, true)), .prim ⟨none, (.unOp .not 4 (tm 111)), 4, "", #[], none⟩⟩,
 ⟨(some 113), (some (110, true)), .mv (tm 112)⟩,
 ⟨(some 114), (some (113, false)), .mv (tm 14)⟩,
 ⟨(some 115), (some (113, false)), .mv (tm 0)⟩,
 ⟨(some 116), (some (113, false)), .prim ⟨none, (.binOp .eql 22 (tm 114) (tm 115) 22), 4, "", #[], none⟩⟩,
 ⟨(some 117), (some (110, true)), .pick (tm 113) (kB true) (tm 116)⟩,
 oo 118 (.pick (tm 110) (tm 117) (kB false)),
 mo 119 (tm 118),
 ⟨(some 120), (some (119, true)), .call 17 []⟩,
 oo 121 (.pick (tm 119) (tm 120) (kB false)),
 mo 8 (tm 121)])
 (.seq (.keep [8])
 .ret)))))))))))))))))))⟩

def lp8x0 : LCode := .loop (.seq (.keep [0, 4, 5, 6, 7, 8])
 (.seq (.seq (.reg [mo 46 (tm 8),
 mo 47 (tm 6),
 le 48 false (tm 47),
 b2 49 .lss 3 (tm 46) (tm 48) 3 4])
 (.cond (tm 49) .skip
 (.exit 2)))
 (.seq (.keep [0, 4, 5, 6, 7, 8])
 (.seq (.block 3 (.seq (.dreg [mo 52 (tm 6),
 mo 53 (tm 8),
 is 54 1 (tm 52) (tm 53),
 l1 55 (tm 54),
 mo 56 (tm 7),
 mo 57 (tm 8),
 is 58 1 (tm 56) (tm 57),
 l1 59 (tm 58),
 b2 60 .neq 22 (tm 55) (tm 59) 22 4] [])
 (.seq (.keep [0, 4, 5, 6, 7, 8, 60])
 (.cond (tm 60) (.seq (.reg [mo 2 (kB false)])
 .ret)
 .skip))))
 (.seq (.keep [0, 4, 5, 6, 7, 8])
 (.reg [mo 50 (tm 8),
 b2 51 .add 3 (tm 50) (ki 1) 3 3,
 mo 8 (tm 51)]))))))

def lp8x1 : LCode := .loop (.seq (.keep [0, 4, 5])
 (.seq (.seq (.reg [mo 18 (tm 5),
 mo 19 (tm 0),
 le 20 false (tm 19),
 b2 21 .lss 3 (tm 18) (tm 20) 3 4])
 (.cond (tm 21) .skip
 (.exit 0)))
 (.seq (.keep [0, 4, 5])
 (.seq (.block 1 (.seq (.seq (.reg [mo 24 (tm 4),
 mo 25 (tm 0),
 mo 26 (tm 5),
 is 27 10 (tm 25) (tm 26),
 l2 28 10 (tm 27),
 ca 29 40 [(tm 24), (tm 28)],
 u1 30 .not 4 (tm 29) 4])
 (.cond (tm 30) (.seq (.reg [mo 2 (kB false)])
 .ret)
 .skip))
 (.seq (.keep [0, 4, 5])
 (.seq (.reg [mo 31 (tm 4),
 nc 32 (tm 31),
 fa 33 0 (tm 32),
 l1 34 (tm 33),
 ca 35 34 [(tm 34)],
 mo 6 (tm 35)])
 (.seq (.reg [mo 36 (tm 4),
 nc 37 (tm 36),
 fa 38 3 (tm 37),
 l1 39 (tm 38),
 ca 40 41 [(tm 39)],
 mo 7 (tm 40)])
 (.seq (.seq (.reg [mo 41 (tm 6),
 le 42 false (tm 41),
 mo 43 (tm 7),
 le 44 false (tm 43),
 b2 45 .neq 3 (tm 42) (tm 44) 3 4])
 (.cond (tm 45) (.seq (.reg [mo 2 (kB false)])
 .ret)
 .skip))
 (.seq (.keep [0, 4, 5, 6, 7])
 (.seq (.reg [mo 8 (ki 0)])
 (.block 2 lp8x0)))))))))
 (.seq (.keep [0, 4, 5])
 (.reg [mo 22 (tm 5),
 b2 23 .add 3 (tm 22) (ki 1) 3 3,
 mo 5 (tm 23)]))))))

def lf8 : LFunc := ⟨1, [.tmp 2],
 (.seq (.reg [mo 2 (kB false)])
 (.seq (.seq (.reg [mo 9 (tm 0),
 ca 10 39 [(tm 9)]])
 (.cond (tm 10) (.seq (.reg [ca 11 17 [],
 mo 2 (tm 11)])
 .ret)
 .skip))
 (.seq (.keep [0])
 (.seq (.reg [ca 12 19 [],
 oo 3 (.alloc [(.int .u32 0), (.int .u32 0), (.int .u32 0), (.int .u32 0), (.int .u32 0), (.int .u32 0), (.int .u32 0), (.int .u32 0), (.int .u32 0), (.int .u32 0), (.int .u32 0), (.int .u32 0), (.int .u32 0), (.int .u32 0), (.int .u32 0), (.int .u32 0), (.int .u32 0), (.int .u32 0), (.int .u32 0), (.int .u32 0), (.int .u32 0), (.int .u32 0), (.int .u32 0), (.int .u32 0), (.int .u32 0), (.int .u32 0), (.int .u32 0), (.int .u32 0), (.int .u32 0), (.int .u32 0), (.int .u32 0), (.int .u32 0), (.int .u32 0), (.int .u32 0), (.int .u32 0), (.int .u32 0), (.int .u32 0), (.int .u32 0), (.int .u32 0), (.int .u32 0), (.int .u32 0), (.int .u32 0), (.int .u32 0), (.int .u32 0), (.int .u32 0), (.int .u32 0), (.int .u32 0), (.int .u32 0), (.int .u32 0), (.int .u32 0), (.int .u32 0), (.int .u32 0), (.int .u32 0), (.int .u32 0), (.int .u32 0), (.int .u32 0), (.int .u32 0), (.int .u32 0), (.int .u32 0), (.int .u32 0), (.int .u32 0), (.int .u32 0), (.int .u32 0), (.int .u32 0), (.int .u32 0), (.int .u32 0), (.int .u32 0), (.int .u32 0), (.int .u32 0), (.int .u32 0), (.int .u32 0), (.int .u32 0), (.int .u32 0), (.int .u32 0), (.int .u32 0), (.int .u32 0), (.int .u32 0), (.int .u32 0), (.int .u32 0), (.int .u32 0), (.int .u32 0), (.int .u32 0), (.int .u32 0), (.int .u32 0), (.int .u32 0), (.int .u32 0), (.int .u32 0), (.int .u32 0), (.int .u32 0), (.int .u32 0), (.int .u32 0), (.int .u32 0), (.int .u32 0), (.int .u32 0), (.int .u32 0), (.int .u32 0), (.int .u32 0), (.int .u32 0), (.int .u32 0), (.int .u32 0), (.int .u32 0), (.int .u32 0), (.int .u32 0), (.int .u32 0), (.int .u32 0), (.int .u32 0), (.int .u32 0), (.int .u32 0), (.int .u32 0), (.int .u32 0), (.int .u32 0), (.int .u32 0), (.int .u32 0), (.int .u32 0), (.int .u32 0), (.int .u32 0), (.int .u32 0), (.int .u32 0), (.int .u32 0), (.int .u32 0), (.int .u32 0), (.int .u32 0), (.int .u32 0), (.int .u32 0), (.int .u32 0), (.int .u32 0), (.int .u32 0), (.int .u32 0), (.int .u32 0), (.int .u32 0), (.int .u32 0), (.int .u32 0), (.int .u32 0), (.int .u32 0), (.int .u32 0), (.int .u32 0), (.int .u32 0), (.int .u32 0), (.int .u32 0), (.int .u32 0), (.int .u32 0), (.int .u32 0), (.int .u32 0), (.int .u32 0), (.int .u32 0), (.int .u32 0), (.int .u32 0), (.int .u32 0), (.int .u32 0), (.int .u32 0), (.int .u32 0), (.int .u32 0), (.int .u32 0), (.int .u32 0), (.int .u32 0), (.int .u32 0), (.int .u32 0), (.int .u32 0), (.int .u32 0), (.int .u32 0), (.int .u32 0), (.int .u32 0), (.int .u32 0), (.int .u32 0), (.int .u32 0), (.int .u32 0), (.int .u32 0), (.int .u32 0), (.int .u32 0), (.int .u32 0), (.int .u32 0), (.int .u32 0), (.int .u32 0), (.int .u32 0), (.int .u32 0), (.int .u32 0), (.int .u32 0), (.int .u32 0), (.int .u32 0), (.int .u32 0), (.int .u32 0), (.int .u32 0), (.int .u32 0), (.int .u32 0), (.int .u32 0), (.int .u32 0), (.int .u32 0), (.int .u32 0), (.int .u32 0), (.int .u32 0), (.int .u32 0), (.int .u32 0), (.int .u32 0), (.int .u32 0), (.int .u32 0), (.int .u32 0), (.int .u32 0), (.int .u32 0), (.int .u32 0), (.int .u32 0), (.int .u32 0), (.int .u32 0), (.int .u32 0), (.int .u32 0), (.int .u32 0), (.int .u32 0), (.int .u32 0), (.int .u32 0), (.int .u32 0), (.int .u32 0), (.int .u32 0), (.int .u32 0), (.int .u32 0), (.int .u32 0), (.int .u32 0), (.int .u32 0), (.int .u32 0), (.int .u32 0), (.int .u32 0), (.int .u32 0), (.int .u32 0), (.int .u32 0), (.int .u32 0), (.int .u32 0), (.int .u32 0), (.int .u32 0), (.int .u32 0), (.int .u32 0), (.int .u32 0), (.int .u32 0), (.int .u32 0), (.int .u32 0), (.int .u32 0), (.int .u32 0), (.int .u32 0), (.int .u32 0), (.int .u32 0), (.int .u32 0), (.int .u32 0), (.int .u32 0), (.int .u32 0), (.int .u32 0), (.int .u32 0), (.int .u32 0), (.int .u32 0), (.int .u32 0), (.int .u32 0), (.int .u32 0), (.int .u32 0), (.int .u32 0), (.int .u32 0), (.int .u32 0), (.int .u32 0), (.int .u32 0), (.int .u32 0), (.int .u32 0)]),
 sr 256 (tm 3) (tm 12)])
 (.seq (.reg [ca 13 18 [],
 oo 14 (.build [(.slice none 0 0), (.bool false), (.int .i64 0)] []),
 oo 15 (.box (tm 14)),
 oo 16 (.build [(.pointer none), (.pointer none), (.pointer none), (.pointer none), (.int .u64 0), (.bool false)] [(0, 1, (tm 13)), (1, 1, (tm 3)), (3, 1, (tm 15))]),
 oo 17 (.box (tm 16)),
 mo 4 (tm 17)])
 (.seq (.seq (.reg [mo 5 (ki 0)])
 (.block 0 lp8x1))
 (.seq (.keep [])
 (.seq (.reg [ca 61 17 [],
 mo 2 (tm 61)])
 .ret))))))))⟩

def lf9 : LFunc := ⟨3, [.tmp 6],
 (.seq (.reg [oo 3 (.box (tm 0)),
 oo 5 (.box (tm 2)),
 mo 6 (kB false)])
 (.seq (.seq (.reg [mo 16 (tm 1),
 ca 17 15 [(tm 16)],
 mo 18 (tm 17),
 ⟨(some 19), (some (18, false)), .ldn 8 (tm 5)⟩,
 ⟨(some 20), (some (18, false)), .call 42 [(tm 19)]⟩,
 oo 21 (.pick (tm 18) (kB true) (tm 20)),
 mo 22 (tm 21),
 ⟨(some 23), (some (22, false)), .fadr 2 (tm 3)⟩,
 ⟨(some 24), (some (22, false)), .ldn 8 (tm 23)⟩,
 ⟨(some 25), (some (22, false)), .call 42 [(tm 24)]⟩,
 oo 26 (.pick (tm 22) (kB true) (tm 25)),
 mo 27 (tm 26),
 ⟨(some 28), (some (27, false)), .fadr 10 (tm 3)⟩,
 ⟨(some 29), (some (27, false)), .ld1 (tm 28)⟩,
 ⟨(some 30), (some (27, false)), .len false (tm 29)⟩,
 ⟨(some 31), (some (27, false)), .prim ⟨none, (.binOp .gtr 3 (tm 30) (ki 40) 3), 4, "", #[], none⟩⟩,
 oo 32 (.pick (tm 27) (kB true) (tm 31)),
 mo 33 (tm 32),
 ⟨(some 34), (some (33, false)), .ldn 11 (tm 3)⟩,
 ⟨(some 35), (some (33, false)), .call 44 [(tm 34)]⟩,
 ⟨(some 36), (some (33, false)), .call 43 [(tm 35)]⟩,
 ⟨(some 37), (some (33, false)), .prim ⟨none, (.unOp .not 4 (tm 36)), 4, "", #[], none⟩⟩,
 oo 38 (.pick (tm 33) (kB true) (tm 37))])
 (.seq (.keep [1, 3, 5, 38])
 (.cond (tm 38) (.seq (.reg [ca 39 45 [],
 mo 6 (tm 39)])
 .ret)
 .skip)))
 (.seq (.keep [1, 3, 5])
 (.seq (.reg [oo 40 (.bslice 13 0 [(.int .u64 0), (.int .u64 0), (.int .u8 0), (.int .u8 0), (.int .u8 0), (.int .u8 0), (.int .u8 0), (.int .u8 0), (.int .u8 0), (.int .u8 0), (.int .u8 0), (.int .u8 0), (.string ⟨#[]⟩)] []),
 fa 41 10 (tm 3),
 l1 42 (tm 41),
 ap 43 13 48 (tm 40) (tm 42),
 mo 7 (tm 43)])
 (.seq (.reg [l2 45 11 (tm 3),
 mo 46 (tm 1),
 ca 47 46 [(tm 45), (tm 46)],
 mo 44 (tm 47),
 ex 48 (tm 44) 0,
 ex 49 (tm 44) 1,
 oo 8 (.alloc [(.int .u64 0), (.int .u8 0), (.int .u64 0), (.int .u64 0), (.int .u8 0), (.string ⟨#[]⟩), (.string ⟨#[]⟩), (.string ⟨#[]⟩), (.string ⟨#[]⟩), (.string ⟨#[]⟩), (.slice none 0 0)]),
 sr 11 (tm 8) (tm 48),
 mo 9 (tm 49)])
 (.seq (.keep [1, 3, 5, 7, 8, 9])
 (.seq (.reg [l2 51 11 (tm 3),
 ca 52 44 [(tm 51)],
 mo 53 (tm 1),
 ca 54 47 [(tm 52), (tm 53)],
 mo 50 (tm 54),
 ex 55 (tm 50) 0,
 ex 56 (tm 50) 1,
 oo 10 (.alloc [(.int .u64 0), (.int .u8 0), (.int .u64 0), (.int .u64 0), (.int .u8 0), (.string ⟨#[]⟩), (.string ⟨#[]⟩), (.string ⟨#[]⟩), (.string ⟨#[]⟩), (.string ⟨#[]⟩), (.slice none 0 0)]),
 sr 11 (tm 10) (tm 55),
 mo 11 (tm 56)])
 (.seq (.keep [3, 5, 7, 8, 9, 10, 11])
 (.seq (.reg [l2 58 11 (tm 3),
 l2 59 8 (tm 5),
 ca 60 48 [(tm 58), (tm 59)],
 mo 57 (tm 60),
 ex 61 (tm 57) 0,
 ex 62 (tm 57) 1,
 oo 12 (.alloc [(.int .u64 0), (.int .u8 0), (.int .u64 0), (.int .u64 0), (.int .u8 0), (.string ⟨#[]⟩), (.string ⟨#[]⟩), (.string ⟨#[]⟩), (.string ⟨#[]⟩), (.string ⟨#[]⟩), (.slice none 0 0)]),
 sr 11 (tm 12) (tm 61),
 mo 13 (tm 62)])
 (.seq (.keep [3, 5, 7, 8, 9, 10, 11, 12, 13])
 (.seq (.dreg [l2 64 11 (tm 3),
 ca 65 44 [(tm 64)],
 l2 66 8 (tm 5),
 ca 67 49 [(tm 65), (tm 66)],
 mo 63 (tm 67),
 ex 68 (tm 63) 0,
 ex 69 (tm 63) 1,
 oo 14 (.alloc [(.int .u64 0), (.int .u8 0), (.int .u64 0), (.int .u64 0), (.int .u8 0), (.string ⟨#[]⟩), (.string ⟨#[]⟩), (.string ⟨#[]⟩), (.string ⟨#[]⟩), (.string ⟨#[]⟩), (.slice none 0 0)]),
 sr 11 (tm 14) (tm 68),
 mo 15 (tm 69)] [(2, 0, 1)])
 (.seq (.keep [3, 7, 8, 9, 10, 11, 12, 13, 14, 15])
 (.seq (.dreg [l2 70 11 (tm 8),
 ca 71 44 [(tm 70)],
 l2 72 11 (tm 10),
 ca 73 50 [(tm 71), (tm 72)],
 mo 74 (tm 73),
 ⟨(some 75), (some (74, true)), .mv (tm 9)⟩,
 ⟨(some 76), (some (74, true)), .mv (tm 11)⟩,
 ⟨(some 77), (some (74, true)), .prim ⟨none, (.binOp .eql 39 (tm 75) (tm 76) 39), 4, "", #[], none⟩⟩,
 oo 78 (.pick (tm 74) (tm 77) (kB false)),
 mo 79 (tm 78),
 ⟨(some 80), (some (79, true)), .ldn 11 (tm 12)⟩,
 ⟨(some 81), (some (79, true)), .call 44 [(tm 80)]⟩,
 ⟨(some 82), (some (79, true)), .ldn 11 (tm 14)⟩,
 ⟨(some 83), (some (79, true)), .call 50 [(tm 81), (tm 82)]⟩,
 oo 84 (.pick (tm 79) (tm 83) (kB false)),
 mo 85 (tm 84),
 ⟨(some 86), (some (85, true)), .mv (tm 13)⟩,
 ⟨(some 87), (some (85, true)), .mv (tm 15)⟩,
 ⟨(some 88), (some (85, true)), .prim ⟨none, (.binOp .eql 39 (tm 86) (tm 87) 39), 4, "", #[], none⟩⟩,
 oo 89 (.pick (tm 85) (tm 88) (kB false)),
 mo 90 (tm 89),
 ⟨(some 91), (some (90, true)), .ldn 11 (tm 3)⟩,
 ⟨(some 92), (some (90, true)), .call 44 [(tm 91)]⟩,
 ⟨(some 93), (some (90, true)), .fadr 0 (tm 3)⟩,
 ⟨(some 94), (some (90, true)), .ld1 (tm 93)⟩,
 ⟨(some 95), (some (90, true)), .fadr 1 (tm 3)⟩,
 ⟨(some 96), (some (90, true)), .ld1 (tm 95)⟩,
 ⟨(some 97), (some (90, true)), .fadr 2 (tm 3)⟩,
 ⟨(some 98), (some (90, true)), .ldn 8 (tm 97)⟩,
 ⟨(some 99), (some (90, true)), .mv (tm 7)⟩,
 ⟨(some 100), (some (90, true)), .build [(.int .u64 0), (.int .u8 0), (.int .u64 0), (.int .u64 0), (.int .u8 0), (.string ⟨#[]⟩), (.string ⟨#[]⟩), (.string ⟨#[]⟩), (.string ⟨#[]⟩), (.string ⟨#[]⟩), (.slice none 0 0)] [(0, 1, (tm 94)), (1, 1, (tm 96)), (2, 8, (tm 98)), (10, 1, (tm 99))]⟩,
 ⟨(some 101), (some (90, true)), .call 50 [(tm 92), (tm 100)]⟩,
 oo 102 (.pick (tm 90) (tm 101) (kB false)),
 mo 103 (tm 102),
 ⟨(some 104), (some (103, true)), .call 45 []⟩,
 oo 105 (.pick (tm 103) (tm 104) (kB false)),
 mo 6 (tm 105)] [(2, 0, 1), (12, 2, 3), (24, 4, 5), (26, 4, 5), (28, 4, 5)])
 (.seq (.keep [6])
 .ret))))))))))))))⟩

def lf10 : LFunc := ⟨7, [.tmp 14],
 (.seq (.reg [oo 9 (.box (tm 2)),
 oo 12 (.box (tm 5)),
 oo 13 (.box (tm 6)),
 mo 14 (kB false)])
 (.seq (.seq (.reg [mo 32 (tm 0),
 ca 33 51 [(tm 32)],
 mo 34 (tm 33),
 ⟨(some 35), (some (34, false)), .ldn 2 (tm 9)⟩,
 ⟨(some 36), (some (34, false)), .call 52 [(tm 35)]⟩,
 oo 37 (.pick (tm 34) (kB true) (tm 36)),
 mo 38 (tm 37),
 ⟨(some 39), (some (38, false)), .ldn 2 (tm 12)⟩,
 ⟨(some 40), (some (38, false)), .call 52 [(tm 39)]⟩,
 oo 41 (.pick (tm 38) (kB true) (tm 40)),
 mo 42 (tm 41),
 ⟨(some 43), (some (42, false)), .ldn 2 (tm 13)⟩,
 ⟨(some 44), (some (42, false)), .call 52 [(tm 43)]⟩,
 oo 45 (.pick (tm 42) (kB true) (tm 44))])
 (.seq (.keep [0, 1, 3, 4, 9, 12, 13, 45])
 (.cond (tm 45) (.seq (.reg [ca 46 45 [],
 mo 14 (tm 46)])
 .ret)
 .skip)))
 (.seq (.keep [0, 1, 3, 4, 9, 12, 13])
 (.seq (.reg [ca 47 18 [],
 mo 15 (tm 47)])
 (.seq (.reg [ca 48 19 [],
 oo 16 (.alloc [(.int .u32 0), (.int .u32 0), (.int .u32 0), (.int .u32 0), (.int .u32 0), (.int .u32 0), (.int .u32 0), (.int .u32 0), (.int .u32 0), (.int .u32 0), (.int .u32 0), (.int .u32 0), (.int .u32 0), (.int .u32 0), (.int .u32 0), (.int .u32 0), (.int .u32 0), (.int .u32 0), (.int .u32 0), (.int .u32 0), (.int .u32 0), (.int .u32 0), (.int .u32 0), (.int .u32 0), (.int .u32 0), (.int .u32 0), (.int .u32 0), (.int .u32 0), (.int .u32 0), (.int .u32 0), (.int .u32 0), (.int .u32 0), (.int .u32 0), (.int .u32 0), (.int .u32 0), (.int .u32 0), (.int .u32 0), (.int .u32 0), (.int .u32 0), (.int .u32 0), (.int .u32 0), (.int .u32 0), (.int .u32 0), (.int .u32 0), (.int .u32 0), (.int .u32 0), (.int .u32 0), (.int .u32 0), (.int .u32 0), (.int .u32 0), (.int .u32 0), (.int .u32 0), (.int .u32 0), (.int .u32 0), (.int .u32 0), (.int .u32 0), (.int .u32 0), (.int .u32 0), (.int .u32 0), (.int .u32 0), (.int .u32 0), (.int .u32 0), (.int .u32 0), (.int .u32 0), (.int .u32 0), (.int .u32 0), (.int .u32 0), (.int .u32 0), (.int .u32 0), (.int .u32 0), (.int .u32 0), (.int .u32 0), (.int .u32 0), (.int .u32 0), (.int .u32 0), (.int .u32 0), (.int .u32 0), (.int .u32 0), (.int .u32 0), (.int .u32 0), (.int .u32 0), (.int .u32 0), (.int .u32 0), (.int .u32 0), (.int .u32 0), (.int .u32 0), (.int .u32 0), (.int .u32 0), (.int .u32 0), (.int .u32 0), (.int .u32 0), (.int .u32 0), (.int .u32 0), (.int .u32 0), (.int .u32 0), (.int .u32 0), (.int .u32 0), (.int .u32 0), (.int .u32 0), (.int .u32 0), (.int .u32 0), (.int .u32 0), (.int .u32 0), (.int .u32 0), (.int .u32 0), (.int .u32 0), (.int .u32 0), (.int .u32 0), (.int .u32 0), (.int .u32 0), (.int .u32 0), (.int .u32 0), (.int .u32 0), (.int .u32 0), (.int .u32 0), (.int .u32 0), (.int .u32 0), (.int .u32 0), (.int .u32 0), (.int .u32 0), (.int .u32 0), (.int .u32 0), (.int .u32 0), (.int .u32 0), (.int .u32 0), (.int .u32 0), (.int .u32 0), (.int .u32 0), (.int .u32 0), (.int .u32 0), (.int .u32 0), (.int .u32 0), (.int .u32 0), (.int .u32 0), (.int .u32 0), (.int .u32 0), (.int .u32 0), (.int .u32 0), (.int .u32 0), (.int .u32 0), (.int .u32 0), (.int .u32 0), (.int .u32 0), (.int .u32 0), (.int .u32 0), (.int .u32 0), (.int .u32 0), (.int .u32 0), (.int .u32 0), (.int .u32 0), (.int .u32 0), (.int .u32 0), (.int .u32 0), (.int .u32 0), (.int .u32 0), (.int .u32 0), (.int .u32 0), (.int .u32 0), (.int .u32 0), (.int .u32 0), (.int .u32 0), (.int .u32 0), (.int .u32 0), (.int .u32 0), (.int .u32 0), (.int .u32 0), (.int .u32 0), (.int .u32 0), (.int .u32 0), (.int .u32 0), (.int .u32 0), (.int .u32 0), (.int .u32 0), (.int .u32 0), (.int .u32 0), (.int .u32 0), (.int .u32 0), (.int .u32 0), (.int .u32 0), (.int .u32 0), (.int .u32 0), (.int .u32 0), (.int .u32 0), (.int .u32 0), (.int .u32 0), (.int .u32 0), (.int .u32 0), (.int .u32 0), (.int .u32 0), (.int .u32 0), (.int .u32 0), (.int .u32 0), (.int .u32 0), (.int .u32 0), (.int .u32 0), (.int .u32 0), (.int .u32 0), (.int .u32 0), (.int .u32 0), (.int .u32 0), (.int .u32 0), (.int .u32 0), (.int .u32 0), (.int .u32 0), (.int .u32 0), (.int .u32 0), (.int .u32 0), (.int .u32 0), (.int .u32 0), (.int .u32 0), (.int .u32 0), (.int .u32 0), (.int .u32 0), (.int .u32 0), (.int .u32 0), (.int .u32 0), (.int .u32 0), (.int .u32 0), (.int .u32 0), (.int .u32 0), (.int .u32 0), (.int .u32 0), (.int .u32 0), (.int .u32 0), (.int .u32 0), (.int .u32 0), (.int .u32 0), (.int .u32 0), (.int .u32 0), (.int .u32 0), (.int .u32 0), (.int .u32 0), (.int .u32 0), (.int .u32 0), (.int .u32 0), (.int .u32 0), (.int .u32 0), (.int .u32 0), (.int .u32 0), (.int .u32 0), (.int .u32 0), (.int .u32 0), (.int .u32 0), (.int .u32 0), (.int .u32 0), (.int .u32 0), (.int .u32 0), (.int .u32 0), (.int .u32 0), (.int .u32 0), (.int .u32 0), (.int .u32 0), (.int .u32 0), (.int .u32 0), (.int .u32 0), (.int .u32 0)]),
 sr 256 (tm 16) (tm 48)])
 (.seq (.reg [mo 50 (tm 15),
 ca 51 53 [(tm 50), (tm 16)],
 mo 49 (tm 51),
 ex 52 (tm 49) 0,
 ex 53 (tm 49) 1,
 ex 54 (tm 49) 2,
 oo 18 (.alloc [(.int .u64 0), (.int .u8 0), (.int .u64 0), (.int .u64 0), (.int .u8 0), (.string ⟨#[]⟩), (.string ⟨#[]⟩), (.string ⟨#[]⟩), (.string ⟨#[]⟩), (.string ⟨#[]⟩), (.slice none 0 0)]),
 mo 17 (tm 52),
 sr 11 (tm 18) (tm 53),
 mo 19 (tm 54)])
 (.seq (.keep [0, 1, 3, 4, 9, 12, 13, 15, 16, 17, 19])
 (.seq (.seq (.reg [mo 55 (tm 19),
 b2 56 .neq 39 (tm 55) (ki 0) 39 4,
 mo 57 (tm 56),
 ⟨(some 58), (some (57, false)), .mv (tm 17)⟩,
 ⟨(some 59), (some (57, false)), .cmpref 0 false (tm 58) (.const (.pointer none))⟩,
 oo 60 (.pick (tm 57) (kB true) (tm 59))])
 (.cond (tm 60) (.seq (.reg [mo 14 (kB false)])
 .ret)
 .skip))
 (.seq (.keep [0, 1, 3, 4, 9, 12, 13, 15, 16, 17])
 (.seq (.reg [mo 61 (tm 15),
 mo 62 (tm 1),
 cv 63 5 3 (tm 62) 3,
 ca 64 22 [(tm 61), (tm 63)]])
 (.seq (.reg [mo 66 (tm 17),
 oo 67 (.build [(.int .u64 0), (.int .u8 0), (.int .u64 0), (.int .u64 0), (.int .u8 0), (.string ⟨#[]⟩), (.string ⟨#[]⟩), (.string ⟨#[]⟩), (.string ⟨#[]⟩), (.string ⟨#[]⟩), (.slice none 0 0)] []),
 mo 68 (tm 0),
 ca 69 54 [(tm 66), (tm 67), (tm 68)],
 mo 65 (tm 69),
 ex 70 (tm 65) 0,
 ex 71 (tm 65) 1,
 ex 72 (tm 65) 2,
 oo 20 (.alloc [(.int .u64 0), (.int .u8 0), (.int .u64 0), (.int .u64 0), (.int .u8 0), (.string ⟨#[]⟩), (.string ⟨#[]⟩), (.string ⟨#[]⟩), (.string ⟨#[]⟩), (.string ⟨#[]⟩), (.slice none 0 0)]),
 sr 11 (tm 20) (tm 70),
 mo 21 (tm 71),
 mo 22 (tm 72)])
 (.seq (.keep [3, 4, 9, 12, 13, 15, 16, 20, 21])
 (.seq (.reg [mo 73 (tm 15),
 l2 74 2 (tm 9),
 ca 75 24 [(tm 73), (tm 74)]])
 (.seq (.reg [mo 76 (tm 15),
 ca 77 25 [(tm 76)]])
 (.seq (.reg [mo 78 (tm 15),
 mo 79 (tm 3),
 b2 80 .rem 5 (tm 79) (kb 60) 5 5,
 cv 81 5 3 (tm 80) 3,
 ca 82 22 [(tm 78), (tm 81)]])
 (.seq (.reg [mo 84 (tm 15),
 ca 85 53 [(tm 84), (tm 16)],
 mo 83 (tm 85),
 ex 86 (tm 83) 0,
 ex 87 (tm 83) 1,
 ex 88 (tm 83) 2,
 oo 24 (.alloc [(.int .u64 0), (.int .u8 0), (.int .u64 0), (.int .u64 0), (.int .u8 0), (.string ⟨#[]⟩), (.string ⟨#[]⟩), (.string ⟨#[]⟩), (.string ⟨#[]⟩), (.string ⟨#[]⟩), (.slice none 0 0)]),
 mo 23 (tm 86),
 sr 11 (tm 24) (tm 87),
 mo 25 (tm 88)])
 (.seq (.keep [4, 12, 13, 15, 16, 20, 21, 25])
 (.seq (.seq (.reg [mo 89 (tm 25),
 b2 90 .neq 39 (tm 89) (ki 0) 39 4,
 mo 91 (tm 90),
 ⟨(some 92), (some (91, true)), .mv (tm 25)⟩,
 ⟨(some 93), (some (91, true)), .prim ⟨none, (.binOp .neq 39 (tm 92) (ki 7) 39), 4, "", #[], none⟩⟩,
 oo 94 (.pick (tm 91) (tm 93) (kB false))])
 (.cond (tm 94) (.seq (.reg [mo 14 (kB false)])
 .ret)
 .skip))
 (.seq (.keep [4, 12, 13, 15, 16, 20, 21])
 (.seq (.reg [mo 95 (tm 15),
 l2 96 2 (tm 12),
 ca 97 24 [(tm 95), (tm 96)]])
 (.seq (.reg [mo 98 (tm 15),
 ca 99 25 [(tm 98)]])
 (.seq (.reg [mo 100 (tm 15),
 mo 101 (tm 4),
 b2 102 .rem 5 (tm 101) (kb 60) 5 5,
 cv 103 5 3 (tm 102) 3,
 ca 104 22 [(tm 100), (tm 103)]])
 (.seq (.reg [mo 106 (tm 15),
 ca 107 53 [(tm 106), (tm 16)],
 mo 105 (tm 107),
 ex 108 (tm 105) 0,
 ex 109 (tm 105) 1,
 ex 110 (tm 105) 2,
 mo 25 (tm 110)])
 (.seq (.seq (.reg [mo 111 (tm 25),
 b2 112 .neq 39 (tm 111) (ki 0) 39 4,
 mo 113 (tm 112),
 ⟨(some 114), (some (113, true)), .mv (tm 25)⟩,
 ⟨(some 115), (some (113, true)), .prim ⟨none, (.binOp .neq 39 (tm 114) (ki 7) 39), 4, "", #[], none⟩⟩,
 oo 116 (.pick (tm 113) (tm 115) (kB false))])
 (.cond (tm 116) (.seq (.reg [mo 14 (kB false)])
 .ret)
 .skip))
 (.seq (.keep [12, 13, 15, 16, 20, 21])
 (.seq (.reg [mo 117 (tm 15),
 l2 118 2 (tm 13),
 ca 119 24 [(tm 117), (tm 118)]])
 (.seq (.reg [mo 120 (tm 15),
 ca 121 25 [(tm 120)]])
 (.seq (.reg [mo 122 (tm 15),
 ca 123 22 [(tm 122), (ki 0)]])
 (.seq (.reg [mo 125 (tm 15),
 ca 126 53 [(tm 125), (tm 16)],
 mo 124 (tm 126),
 ex 127 (tm 124) 0,
 ex 128 (tm 124) 1,
 ex 129 (tm 124) 2,
 oo 27 (.alloc [(.int .u64 0), (.int .u8 0), (.int .u64 0), (.int .u64 0), (.int .u8 0), (.string ⟨#[]⟩), (.string ⟨#[]⟩), (.string ⟨#[]⟩), (.string ⟨#[]⟩), (.string ⟨#[]⟩), (.slice none 0 0)]),
 mo 26 (tm 127),
 sr 11 (tm 27) (tm 128),
 mo 28 (tm 129)])
 (.seq (.keep [12, 15, 16, 20, 21, 26, 27, 28])
 (.seq (.seq (.reg [mo 130 (tm 28),
 b2 131 .neq 39 (tm 130) (ki 0) 39 4,
 mo 132 (tm 131),
 ⟨(some 133), (some (132, false)), .mv (tm 26)⟩,
 ⟨(some 134), (some (132, false)), .cmpref 0 false (tm 133) (.const (.pointer none))⟩,
 oo 135 (.pick (tm 132) (kB true) (tm 134)),
 mo 136 (tm 135),
 ⟨(some 137), (some (136, false)), .ldn 11 (tm 27)⟩,
 ⟨(some 138), (some (136, false)), .ldn 11 (tm 20)⟩,
 ⟨(some 139), (some (136, false)), .mv (tm 21)⟩,
 ⟨(some 140), (some (136, false)), .call 55 [(tm 137), (tm 138), (tm 139)]⟩,
 ⟨(some 141), (some (136, false)), .prim ⟨none, (.unOp .not 4 (tm 140)), 4, "", #[], none⟩⟩,
 oo 142 (.pick (tm 136) (kB true) (tm 141))])
 (.seq (.keep [12, 15, 16, 27, 142])
 (.cond (tm 142) (.seq (.reg [mo 14 (kB false)])
 .ret)
 .skip)))
 (.seq (.keep [12, 15, 16, 27])
 (.seq (.reg [mo 143 (tm 15),
 l2 144 2 (tm 12),
 ca 145 24 [(tm 143), (tm 144)]])
 (.seq (.reg [mo 146 (tm 15),
 ca 147 25 [(tm 146)]])
 (.seq (.reg [mo 149 (tm 15),
 ca 150 53 [(tm 149), (tm 16)],
 mo 148 (tm 150),
 ex 151 (tm 148) 0,
 ex 152 (tm 148) 1,
 ex 153 (tm 148) 2,
 oo 30 (.alloc [(.int .u64 0), (.int .u8 0), (.int .u64 0), (.int .u64 0), (.int .u8 0), (.string ⟨#[]⟩), (.string ⟨#[]⟩), (.string ⟨#[]⟩), (.string ⟨#[]⟩), (.string ⟨#[]⟩), (.slice none 0 0)]),
 mo 29 (tm 151),
 sr 11 (tm 30) (tm 152),
 mo 31 (tm 153)])
 (.seq (.keep [27, 30, 31])
 (.seq (.dreg [mo 154 (tm 31),
 b2 155 .eql 39 (tm 154) (ki 0) 39 4,
 mo 156 (tm 155),
 ⟨(some 157), (some (156, true)), .ldn 11 (tm 30)⟩,
 ⟨(some 158), (some (156, true)), .call 44 [(tm 157)]⟩,
 ⟨(some 159), (some (156, true)), .ldn 11 (tm 27)⟩,
 ⟨(some 160), (some (156, true)), .call 44 [(tm 159)]⟩,
 ⟨(some 161), (some (156, true)), .call 50 [(tm 158), (tm 160)]⟩,
 oo 162 (.pick (tm 156) (tm 161) (kB false)),
 mo 163 (tm 162),
 ⟨(some 164), (some (163, true)), .call 45 []⟩,
 oo 165 (.pick (tm 163) (tm 164) (kB false)),
 mo 14 (tm 165)] [(5, 0, 1)])
 (.seq (.keep [14])
 .ret))))))))))))))))))))))))))))))))))))))⟩

def lp11x0 : LCode := .loop (.seq (.keep [17, 19, 21])
 (.seq (.seq (.reg [mo 172 (tm 21),
 fa 173 10 (tm 17),
 l1 174 (tm 173),
 le 175 false (tm 174),
 b2 176 .lss 3 (tm 172) (tm 175) 3 4])
 (.cond (tm 176) .skip
 (.exit 6)))
 (.seq (.keep [17, 19, 21])
 (.seq (.block 7 (.seq (.reg [fa 179 10 (tm 17),
 l1 180 (tm 179),
 mo 181 (tm 21),
 is 182 13 (tm 180) (tm 181),
 l2 183 13 (tm 182),
 oo 22 (.alloc [(.int .u64 0), (.int .u64 0), (.int .u8 0), (.int .u8 0), (.int .u8 0), (.int .u8 0), (.int .u8 0), (.int .u8 0), (.int .u8 0), (.int .u8 0), (.int .u8 0), (.int .u8 0), (.string ⟨#[]⟩)]),
 sr 13 (tm 22) (tm 183)])
 (.seq (.reg [fa 184 10 (tm 19),
 l1 185 (tm 184),
 mo 186 (tm 21),
 is 187 13 (tm 185) (tm 186),
 l2 188 13 (tm 187),
 oo 23 (.alloc [(.int .u64 0), (.int .u64 0), (.int .u8 0), (.int .u8 0), (.int .u8 0), (.int .u8 0), (.int .u8 0), (.int .u8 0), (.int .u8 0), (.int .u8 0), (.int .u8 0), (.int .u8 0), (.string ⟨#[]⟩)]),
 sr 13 (tm 23) (tm 188)])
 (.seq (.reg [fa 189 0 (tm 22),
 l1 190 (tm 189),
 fa 191 0 (tm 23),
 l1 192 (tm 191),
 b2 193 .neq 22 (tm 190) (tm 192) 22 4,
 mo 194 (tm 193),
 ⟨(some 195), (some (194, false)), .fadr 1 (tm 22)⟩,
 ⟨(some 196), (some (194, false)), .ld1 (tm 195)⟩,
 ⟨(some 197), (some (194, false)), .fadr 1 (tm 23)⟩,
 ⟨(some 198), (some (194, false)), .ld1 (tm 197)⟩,
 ⟨(some 199), (some (194, false)), .prim ⟨none, (.binOp .neq 22 (tm 196) (tm 198) 22), 4, "", #[], none⟩⟩,
 oo 200 (.pick (tm 194) (kB true) (tm 199)),
 mo 201 (tm 200),
 ⟨(some 202), (some (201, false)), .fadr 2 (tm 22)⟩,
 ⟨(some 203), (some (201, false)), .ld1 (tm 202)⟩,
 ⟨(some 204), (some (201, false)), .fadr 2 (tm 23)⟩,
 ⟨(some 205), (some (201, false)), .ld1 (tm 204)⟩,
 ⟨(some 206), (some (201, false)), .prim ⟨none, (.binOp .neq 5 (tm 203) (tm 205) 5), 4, "", #[], none⟩⟩,
 oo 207 (.pick (tm 201) (kB true) (tm 206)),
 mo 208 (tm 207),
 ⟨(some 209), (some (208, false)), .fadr 3 (tm 22)⟩,
 ⟨(some 210), (some (208, false)), .ld1 (tm 209)⟩,
 ⟨(some 211), (some (208, false)), .fadr 3 (tm 23)⟩,
 ⟨(some 212), (some (208, false)), .ld1 (tm 211)⟩,
 ⟨(some 213), (some (208, false)), .prim ⟨none, (.binOp .neq 5 (tm 210) (tm 212) 5), 4, "", #[], none⟩⟩,
 oo 214 (.pick (tm 208) (kB true) (tm 213)),
 mo 215 (tm 214),
 ⟨(some 216), (some (215, false)), .fadr 4 (tm 22)⟩,
 ⟨(some 217), (some (215, false)), .ldn 8 (tm 216)⟩,
 ⟨(some 218), (some (215, false)), .fadr 4 (tm 23)⟩,
 ⟨(some 219), (some (215, false)), .ldn 8 (tm 218)⟩,
 ⟨(some 220), (some (215, false)), .prim ⟨none, (.binOp .neq 52 (tm 217) (tm 219) 52), 4, "", #[], none⟩⟩,
 oo 221 (.pick (tm 215) (kB true) (tm 220))])
 (.seq (.keep [17, 19, 21, 221])
 (.cond (tm 221) (.seq (.reg [mo 10 (kB false)])
 .ret)
 .skip))))))
 (.seq (.keep [17, 19, 21])
 (.reg [mo 177 (tm 21),
 b2 178 .add 3 (tm 177) (ki 1) 3 3,
 mo 21 (tm 178)]))))))

def lp11x1 : LCode := .loop (.seq (.keep [0, 1, 2, 3, 9, 11, 12, 13, 16])
 (.seq (.seq (.reg [mo 92 (tm 16),
 b2 93 .lss 3 (tm 92) (ki 5) 3 4])
 (.cond (tm 93) .skip
 (.exit 4)))
 (.seq (.keep [0, 1, 2, 3, 9, 11, 12, 13, 16])
 (.seq (.block 5 (.reg [mo 96 (tm 16),
 mo 97 (tm 2),
 fa 98 2 (tm 13),
 fa 99 3 (tm 98),
 oo 100 (.iadra 5 1 (tm 99) (tm 96)),
 sr 1 (tm 100) (tm 97)]))
 (.seq (.keep [0, 1, 2, 3, 9, 11, 12, 13, 16])
 (.reg [mo 94 (tm 16),
 b2 95 .add 3 (tm 94) (ki 1) 3 3,
 mo 16 (tm 95)]))))))

def lp11x2 : LCode := .loop (.seq (.keep [0, 1, 2, 3, 9, 11, 12, 13, 14])
 (.seq (.seq (.reg [mo 56 (tm 14),
 fa 57 1 (tm 13),
 l1 58 (tm 57),
 le 59 false (tm 58),
 b2 60 .lss 3 (tm 56) (tm 59) 3 4])
 (.cond (tm 60) .skip
 (.exit 2)))
 (.seq (.keep [0, 1, 2, 3, 9, 11, 12, 13, 14])
 (.seq (.block 3 (.seq (.reg [fa 63 1 (tm 13),
 l1 64 (tm 63),
 mo 65 (tm 14),
 is 66 16 (tm 64) (tm 65),
 fa 67 3 (tm 66),
 fa 68 2 (tm 67),
 l1 69 (tm 68),
 mo 15 (tm 69)])
 (.seq (.keep [0, 1, 2, 3, 9, 11, 12, 13, 14, 15])
 (.seq (.reg [fa 70 1 (tm 13),
 l1 71 (tm 70),
 mo 72 (tm 14),
 is 73 16 (tm 71) (tm 72),
 fa 74 0 (tm 73),
 l1 75 (tm 74),
 b2 76 .eql 5 (tm 75) (kb 3) 5 4,
 mo 77 (tm 76),
 ⟨(some 78), (some (77, true)), .mv (tm 15)⟩,
 ⟨(some 79), (some (77, true)), .prim ⟨none, (.binOp .eql 5 (tm 78) (kb 3) 5), 4, "", #[], none⟩⟩,
 ⟨(some 80), (some (77, true)), .mv (tm 79)⟩,
 ⟨(some 81), (some (80, false)), .mv (tm 15)⟩,
 ⟨(some 82), (some (80, false)), .prim ⟨none, (.binOp .eql 5 (tm 81) (kb 4) 5), 4, "", #[], none⟩⟩,
 ⟨(some 83), (some (77, true)), .pick (tm 80) (kB true) (tm 82)⟩,
 oo 84 (.pick (tm 77) (tm 83) (kB false))])
 (.seq (.keep [0, 1, 2, 3, 9, 11, 12, 13, 14, 84])
 (.cond (tm 84) (.reg [fa 85 1 (tm 13),
 l1 86 (tm 85),
 mo 87 (tm 14),
 mo 88 (tm 1),
 is 89 16 (tm 86) (tm 87),
 fa 90 3 (tm 89),
 fa 91 12 (tm 90),
 sr 1 (tm 91) (tm 88)])
 .skip))))))
 (.seq (.keep [0, 1, 2, 3, 9, 11, 12, 13, 14])
 (.reg [mo 61 (tm 14),
 b2 62 .add 3 (tm 61) (ki 1) 3 3,
 mo 14 (tm 62)]))))))

def lp11x3 : LCode := .loop (.seq (.keep [0, 1, 2, 3, 9, 11, 12])
 (.seq (.seq (.reg [mo 41 (tm 12),
 mo 42 (tm 0),
 le 43 false (tm 42),
 b2 44 .lss 3 (tm 41) (tm 43) 3 4])
 (.cond (tm 44) .skip
 (.exit 0)))
 (.seq (.keep [0, 1, 2, 3, 9, 11, 12])
 (.seq (.block 1 (.seq (.reg [mo 47 (tm 0),
 mo 48 (tm 12),
 is 49 10 (tm 47) (tm 48),
 l2 50 10 (tm 49),
 oo 13 (.alloc [(.int .u8 0), (.slice none 0 0), (.int .u64 0), (.int .u64 0), (.int .u8 0), (.string ⟨#[]⟩), (.string ⟨#[]⟩), (.string ⟨#[]⟩), (.string ⟨#[]⟩), (.string ⟨#[]⟩)]),
 sr 10 (tm 13) (tm 50)])
 (.seq (.reg [oo 51 (.bslice 16 0 [(.int .u8 0), (.int .u64 0), (.int .u8 0), (.int .u64 0), (.int .u64 0), (.int .u8 0), (.int .u8 0), (.int .u8 0), (.int .u8 0), (.int .u8 0), (.int .u8 0), (.int .u8 0), (.int .u8 0), (.int .u8 0), (.int .u8 0), (.string ⟨#[]⟩)] []),
 fa 52 1 (tm 13),
 l1 53 (tm 52),
 ap 54 16 72 (tm 51) (tm 53),
 fa 55 1 (tm 13),
 sr 1 (tm 55) (tm 54)])
 (.seq (.seq (.reg [mo 14 (ki 0)])
 (.block 2 lp11x2))
 (.seq (.keep [0, 1, 2, 3, 9, 11, 12, 13])
 (.seq (.seq (.reg [mo 16 (ki 0)])
 (.block 4 lp11x1))
 (.seq (.keep [0, 1, 2, 3, 9, 11, 12, 13])
 (.reg [mo 101 (tm 11),
 l2 102 10 (tm 13),
 oo 103 (.bslice 10 1 [(.int .u8 0), (.slice none 0 0), (.int .u64 0), (.int .u64 0), (.int .u8 0), (.string ⟨#[]⟩), (.string ⟨#[]⟩), (.string ⟨#[]⟩), (.string ⟨#[]⟩), (.string ⟨#[]⟩)] [(0, 10, (tm 102))]),
 ap 104 10 136 (tm 101) (tm 103),
 mo 11 (tm 104)]))))))))
 (.seq (.keep [0, 1, 2, 3, 9, 11, 12])
 (.reg [mo 45 (tm 12),
 b2 46 .add 3 (tm 45) (ki 1) 3 3,
 mo 12 (tm 46)]))))))

def lf11 : LFunc := ⟨5, [.tmp 10],
 (.seq (.reg [oo 9 (.box (tm 4)),
 mo 10 (kB false)])
 (.seq (.seq (.reg [mo 24 (tm 0),
 ca 25 51 [(tm 24)],
 mo 26 (tm 25),
 ⟨(some 27), (some (26, false)), .ldn 2 (tm 9)⟩,
 ⟨(some 28), (some (26, false)), .call 52 [(tm 27)]⟩,
 oo 29 (.pick (tm 26) (kB true) (tm 28)),
 mo 30 (tm 29),
 ⟨(some 31), (some (30, false)), .mv (tm 1)⟩,
 ⟨(some 32), (some (30, false)), .prim ⟨none, (.call ⟨.builtin .len, #[(tm 31)], #[9]⟩), 3, "", #[], none⟩⟩,
 ⟨(some 33), (some (30, false)), .prim ⟨none, (.binOp .gtr 3 (tm 32) (ki 200) 3), 4, "", #[], none⟩⟩,
 oo 34 (.pick (tm 30) (kB true) (tm 33)),
 mo 35 (tm 34),
 ⟨(some 36), (some (35, false)), .mv (tm 2)⟩,
 ⟨(some 37), (some (35, false)), .prim ⟨none, (.call ⟨.builtin .len, #[(tm 36)], #[9]⟩), 3, "", #[], none⟩⟩,
 ⟨(some 38), (some (35, false)), .prim ⟨none, (.binOp .gtr 3 (tm 37) (ki 200) 3), 4, "", #[], none⟩⟩,
 oo 39 (.pick (tm 35) (kB true) (tm 38))])
 (.seq (.keep [0, 1, 2, 3, 9, 39])
 (.cond (tm 39) (.seq (.reg [ca 40 45 [],
 mo 10 (tm 40)])
 .ret)
 .skip)))
 (.seq (.keep [0, 1, 2, 3, 9])
 (.seq (.reg [mo 11 (.const (.slice none 0 0))])
 (.seq (.seq (.reg [mo 12 (ki 0)])
 (.block 0 lp11x3))
 (.seq (.keep [0, 3, 9, 11])
 (.seq (.reg [mo 106 (tm 0),
 mo 107 (tm 3),
 l2 108 2 (tm 9),
 ca 109 56 [(tm 106), (tm 107), (tm 108)],
 mo 105 (tm 109),
 ex 110 (tm 105) 0,
 ex 111 (tm 105) 1,
 oo 17 (.alloc [(.int .u64 0), (.int .u8 0), (.int .u64 0), (.int .u64 0), (.int .u8 0), (.string ⟨#[]⟩), (.string ⟨#[]⟩), (.string ⟨#[]⟩), (.string ⟨#[]⟩), (.string ⟨#[]⟩), (.slice none 0 0)]),
 sr 11 (tm 17) (tm 110),
 mo 18 (tm 111)])
 (.seq (.keep [3, 9, 11, 17, 18])
 (.seq (.reg [mo 113 (tm 11),
 mo 114 (tm 3),
 l2 115 2 (tm 9),
 ca 116 56 [(tm 113), (tm 114), (tm 115)],
 mo 112 (tm 116),
 ex 117 (tm 112) 0,
 ex 118 (tm 112) 1,
 oo 19 (.alloc [(.int .u64 0), (.int .u8 0), (.int .u64 0), (.int .u64 0), (.int .u8 0), (.string ⟨#[]⟩), (.string ⟨#[]⟩), (.string ⟨#[]⟩), (.string ⟨#[]⟩), (.string ⟨#[]⟩), (.slice none 0 0)]),
 sr 11 (tm 19) (tm 117),
 mo 20 (tm 118)])
 (.seq (.keep [17, 18, 19, 20])
 (.seq (.seq (.reg [mo 119 (tm 18),
 mo 120 (tm 20),
 b2 121 .neq 4 (tm 119) (tm 120) 4 4,
 mo 122 (tm 121),
 ⟨(some 123), (some (122, false)), .fadr 0 (tm 17)⟩,
 ⟨(some 124), (some (122, false)), .ld1 (tm 123)⟩,
 ⟨(some 125), (some (122, false)), .fadr 0 (tm 19)⟩,
 ⟨(some 126), (some (122, false)), .ld1 (tm 125)⟩,
 ⟨(some 127), (some (122, false)), .prim ⟨none, (.binOp .neq 22 (tm 124) (tm 126) 22), 4, "", #[], none⟩⟩,
 oo 128 (.pick (tm 122) (kB true) (tm 127)),
 mo 129 (tm 128),
 ⟨(some 130), (some (129, false)), .fadr 1 (tm 17)⟩,
 ⟨(some 131), (some (129, false)), .ld1 (tm 130)⟩,
 ⟨(some 132), (some (129, false)), .fadr 1 (tm 19)⟩,
 ⟨(some 133), (some (129, false)), .ld1 (tm 132)⟩,
 ⟨(some 134), (some (129, false)), .prim ⟨none, (.binOp .neq 5 (tm 131) (tm 133) 5), 4, "", #[], none⟩⟩,
 oo 135 (.pick (tm 129) (kB true) (tm 134)),
 mo 136 (tm 135),
 ⟨(some 137), (some (136, false)), .fadr 2 (tm 17)⟩,
 ⟨(some 138), (some (136, false)), .fadr 0 (tm 137)⟩,
 ⟨(some 139), (some (136, false)), .ld1 (tm 138)⟩,
 ⟨(some 140), (some (136, false)), .fadr 2 (tm 19)⟩,
 ⟨(some 141), (some (136, false)), .fadr 0 (tm 140)⟩,
 ⟨(some 142), (some (136, false)), .ld1 (tm 141)⟩,
 ⟨(some 143), (some (136, false)), .prim ⟨none, (.binOp .neq 22 (tm 139) (tm 142) 22), 4, "", #[], none⟩⟩,
 oo 144 (.pick (tm 136) (kB true) (tm 143)),
 mo 145 (tm 144),
 ⟨(some 146), (some (145, false)), .fadr 2 (tm 17)⟩,
 ⟨(some 147), (some (145, false)), .fadr 1 (tm 146)⟩,
 ⟨(some 148), (some (145, false)), .ld1 (tm 147)⟩,
 ⟨(some 149), (some (145, false)), .fadr 2 (tm 19)⟩,
 ⟨(some 150), (some (145, false)), .fadr 1 (tm 149)⟩,
 ⟨(some 151), (some (145, false)), .ld1 (tm 150)⟩,
 ⟨(some 152), (some (145, false)), .prim ⟨none, (.binOp .neq 22 (tm 148) (tm 151) 22), 4, "", #[], none⟩⟩,
 oo 153 (.pick (tm 145) (kB true) (tm 152)),
 mo 154 (tm 153),
 ⟨(some 155), (some (154, false)), .fadr 2 (tm 17)⟩,
 ⟨(some 156), (some (154, false)), .fadr 2 (tm 155)⟩,
 ⟨(some 157), (some (154, false)), .ld1 (tm 156)⟩,
 ⟨(some 158), (some (154, false)), .fadr 2 (tm 19)⟩,
 ⟨(some 159), (some (154, false)), .fadr 2 (tm 158)⟩,
 ⟨(some 160), (some (154, false)), .ld1 (tm 159)⟩,
 ⟨(some 161), (some (154, false)), .prim ⟨none, (.binOp .neq 5 (tm 157) (tm 160) 5), 4, "", #[], none⟩⟩,
 oo 162 (.pick (tm 154) (kB true) (tm 161)),
 mo 163 (tm 162),
 ⟨(some 164), (some (163, false)), .fadr 10 (tm 17)⟩,
 ⟨(some 165), (some (163, false)), .ld1 (tm 164)⟩,
 ⟨(some 166), (some (163, false)), .len false (tm 165)⟩,
 ⟨(some 167), (some (163, false)), .fadr 10 (tm 19)⟩,
 ⟨(some 168), (some (163, false)), .ld1 (tm 167)⟩,
 ⟨(some 169), (some (163, false)), .len false (tm 168)⟩,
 ⟨(some 170), (some (163, false)), .prim ⟨none, (.binOp .neq 3 (tm 166) (tm 169) 3), 4, "", #[], none⟩⟩,
 oo 171 (.pick (tm 163) (kB true) (tm 170))])
 (.seq (.keep [17, 19, 171])
 (.cond (tm 171) (.seq (.reg [mo 10 (kB false)])
 .ret)
 .skip)))
 (.seq (.keep [17, 19])
 (.seq (.seq (.reg [mo 21 (ki 0)])
 (.block 6 lp11x0))
 (.seq (.keep [])
 (.seq (.reg [ca 222 45 [],
 mo 10 (tm 222)])
 .ret)))))))))))))))⟩

def lp12x0 : LCode := .loop (.seq (.keep [0, 3, 4, 5, 8, 9])
 (.seq (.seq (.reg [mo 46 (tm 9),
 mo 47 (tm 0),
 le 48 false (tm 47),
 b2 49 .lss 3 (tm 46) (tm 48) 3 4])
 (.cond (tm 49) .skip
 (.exit 0)))
 (.seq (.keep [0, 3, 4, 5, 8, 9])
 (.seq (.block 1 (.seq (.seq (.reg [mo 52 (tm 0),
 mo 53 (tm 9),
 is 54 10 (tm 52) (tm 53),
 fa 55 0 (tm 54),
 l1 56 (tm 55)])
 (.block 2 (.seq (.reg [b2 58 .eql 5 (tm 56) (kb 0) 5 4,
 mo 57 (tm 58)])
 (.cond (tm 57) (.seq (.reg [mo 59 (tm 5),
 mo 60 (tm 0),
 mo 61 (tm 9),
 is 62 10 (tm 60) (tm 61),
 fa 63 1 (tm 62),
 l1 64 (tm 63),
 ca 65 58 [(tm 59), (tm 64)],
 mo 10 (tm 65)])
 (.seq (.keep [0, 3, 4, 5, 8, 9, 10])
 (.seq (.dreg [l2 67 11 (tm 8),
 mo 68 (tm 0),
 mo 69 (tm 9),
 is 70 10 (tm 68) (tm 69),
 fa 71 1 (tm 70),
 l1 72 (tm 71),
 ca 73 47 [(tm 67), (tm 72)],
 mo 66 (tm 73),
 ex 74 (tm 66) 0,
 ex 75 (tm 66) 1,
 oo 11 (.alloc [(.int .u64 0), (.int .u8 0), (.int .u64 0), (.int .u64 0), (.int .u8 0), (.string ⟨#[]⟩), (.string ⟨#[]⟩), (.string ⟨#[]⟩), (.string ⟨#[]⟩), (.string ⟨#[]⟩), (.slice none 0 0)]),
 sr 11 (tm 11) (tm 74),
 mo 12 (tm 75)] [])
 (.seq (.keep [0, 3, 4, 5, 8, 9, 10, 11, 12])
 (.seq (.seq (.reg [mo 76 (tm 10),
 mo 77 (tm 12),
 b2 78 .neq 39 (tm 76) (tm 77) 39 4])
 (.cond (tm 78) (.seq (.reg [mo 2 (kB false)])
 .ret)
 .skip))
 (.seq (.keep [0, 3, 4, 5, 8, 9, 11, 12])
 (.seq (.reg [mo 79 (tm 12),
 b2 80 .eql 39 (tm 79) (ki 0) 39 4])
 (.cond (tm 80) (.reg [l2 81 11 (tm 11),
 sr 11 (tm 8) (tm 81)])
 .skip))))))))
 (.seq (.reg [b2 83 .eql 5 (tm 56) (kb 1) 5 4,
 mo 82 (tm 83)])
 (.cond (tm 82) (.seq (.reg [mo 84 (tm 5),
 mo 85 (tm 0),
 mo 86 (tm 9),
 is 87 10 (tm 85) (tm 86),
 fa 88 2 (tm 87),
 l2 89 8 (tm 88),
 ca 90 59 [(tm 84), (tm 89)],
 mo 13 (tm 90)])
 (.seq (.keep [0, 3, 4, 5, 8, 9, 13])
 (.seq (.dreg [l2 92 11 (tm 8),
 mo 93 (tm 0),
 mo 94 (tm 9),
 is 95 10 (tm 93) (tm 94),
 fa 96 2 (tm 95),
 l2 97 8 (tm 96),
 ca 98 49 [(tm 92), (tm 97)],
 mo 91 (tm 98),
 ex 99 (tm 91) 0,
 ex 100 (tm 91) 1,
 oo 14 (.alloc [(.int .u64 0), (.int .u8 0), (.int .u64 0), (.int .u64 0), (.int .u8 0), (.string ⟨#[]⟩), (.string ⟨#[]⟩), (.string ⟨#[]⟩), (.string ⟨#[]⟩), (.string ⟨#[]⟩), (.slice none 0 0)]),
 sr 11 (tm 14) (tm 99),
 mo 15 (tm 100)] [])
 (.seq (.keep [0, 3, 4, 5, 8, 9, 13, 14, 15])
 (.seq (.seq (.reg [mo 101 (tm 13),
 mo 102 (tm 15),
 b2 103 .neq 39 (tm 101) (tm 102) 39 4])
 (.cond (tm 103) (.seq (.reg [mo 2 (kB false)])
 .ret)
 .skip))
 (.seq (.keep [0, 3, 4, 5, 8, 9, 14, 15])
 (.seq (.reg [mo 104 (tm 15),
 b2 105 .eql 39 (tm 104) (ki 0) 39 4])
 (.cond (tm 105) (.reg [l2 106 11 (tm 14),
 sr 11 (tm 8) (tm 106)])
 .skip))))))))
 (.seq (.reg [b2 108 .eql 5 (tm 56) (kb 2) 5 4,
 mo 107 (tm 108)])
 (.cond (tm 107) (.seq (.reg [mo 110 (tm 3),
 ca 111 53 [(tm 110), (tm 4)],
 mo 109 (tm 111),
 ex 112 (tm 109) 0,
 ex 113 (tm 109) 1,
 ex 114 (tm 109) 2,
 oo 17 (.alloc [(.int .u64 0), (.int .u8 0), (.int .u64 0), (.int .u64 0), (.int .u8 0), (.string ⟨#[]⟩), (.string ⟨#[]⟩), (.string ⟨#[]⟩), (.string ⟨#[]⟩), (.string ⟨#[]⟩), (.slice none 0 0)]),
 mo 16 (tm 112),
 sr 11 (tm 17) (tm 113),
 mo 18 (tm 114)])
 (.seq (.keep [0, 3, 4, 8, 9, 16, 17, 18])
 (.seq (.seq (.dreg [mo 115 (tm 18),
 b2 116 .neq 39 (tm 115) (ki 0) 39 4,
 mo 117 (tm 116),
 ⟨(some 118), (some (117, false)), .mv (tm 16)⟩,
 ⟨(some 119), (some (117, false)), .cmpref 0 false (tm 118) (.const (.pointer none))⟩,
 oo 120 (.pick (tm 117) (kB true) (tm 119)),
 mo 121 (tm 120),
 ⟨(some 122), (some (121, false)), .ldn 11 (tm 17)⟩,
 ⟨(some 123), (some (121, false)), .call 44 [(tm 122)]⟩,
 ⟨(some 124), (some (121, false)), .ldn 11 (tm 8)⟩,
 ⟨(some 125), (some (121, false)), .call 50 [(tm 123), (tm 124)]⟩,
 ⟨(some 126), (some (121, false)), .prim ⟨none, (.unOp .not 4 (tm 125)), 4, "", #[], none⟩⟩,
 oo 127 (.pick (tm 121) (kB true) (tm 126))] [(9, 0, 1)])
 (.seq (.keep [0, 3, 4, 8, 9, 16, 127])
 (.cond (tm 127) (.seq (.reg [mo 2 (kB false)])
 .ret)
 .skip)))
 (.seq (.keep [0, 3, 4, 8, 9, 16])
 (.reg [mo 128 (tm 16),
 mo 5 (tm 128)])))))
 .skip))))))))
 (.seq (.keep [0, 3, 4, 5, 8, 9])
 (.seq (.dreg [mo 129 (tm 5),
 ca 130 60 [(tm 129)],
 ca 131 44 [(tm 130)],
 l2 132 11 (tm 8),
 ca 133 50 [(tm 131), (tm 132)],
 u1 134 .not 4 (tm 133) 4,
 mo 135 (tm 134),
 ⟨(some 136), (some (135, false)), .mv (tm 3)⟩,
 ⟨(some 137), (some (135, false)), .ldn 11 (tm 8)⟩,
 ⟨(some 138), (some (135, false)), .call 61 [(tm 136), (tm 137)]⟩,
 ⟨(some 139), (some (135, false)), .prim ⟨none, (.unOp .not 4 (tm 138)), 4, "", #[], none⟩⟩,
 oo 140 (.pick (tm 135) (kB true) (tm 139))] [(3, 0, 2)])
 (.seq (.keep [0, 3, 4, 5, 8, 9, 140])
 (.cond (tm 140) (.seq (.reg [mo 2 (kB false)])
 .ret)
 .skip))))))
 (.seq (.keep [0, 3, 4, 5, 8, 9])
 (.reg [mo 50 (tm 9),
 b2 51 .add 3 (tm 50) (ki 1) 3 3,
 mo 9 (tm 51)]))))))

def lf12 : LFunc := ⟨1, [.tmp 2],
 (.seq (.reg [mo 2 (kB false)])
 (.seq (.seq (.reg [mo 19 (tm 0),
 ca 20 51 [(tm 19)]])
 (.cond (tm 20) (.seq (.reg [ca 21 45 [],
 mo 2 (tm 21)])
 .ret)
 .skip))
 (.seq (.keep [0])
 (.seq (.reg [ca 22 18 [],
 mo 3 (tm 22)])
 (.seq (.reg [ca 23 19 [],
 oo 4 (.alloc [(.int .u32 0), (.int .u32 0), (.int .u32 0), (.int .u32 0), (.int .u32 0), (.int .u32 0), (.int .u32 0), (.int .u32 0), (.int .u32 0), (.int .u32 0), (.int .u32 0), (.int .u32 0), (.int .u32 0), (.int .u32 0), (.int .u32 0), (.int .u32 0), (.int .u32 0), (.int .u32 0), (.int .u32 0), (.int .u32 0), (.int .u32 0), (.int .u32 0), (.int .u32 0), (.int .u32 0), (.int .u32 0), (.int .u32 0), (.int .u32 0), (.int .u32 0), (.int .u32 0), (.int .u32 0), (.int .u32 0), (.int .u32 0), (.int .u32 0), (.int .u32 0), (.int .u32 0), (.int .u32 0), (.int .u32 0), (.int .u32 0), (.int .u32 0), (.int .u32 0), (.int .u32 0), (.int .u32 0), (.int .u32 0), (.int .u32 0), (.int .u32 0), (.int .u32 0), (.int .u32 0), (.int .u32 0), (.int .u32 0), (.int .u32 0), (.int .u32 0), (.int .u32 0), (.int .u32 0), (.int .u32 0), (.int .u32 0), (.int .u32 0), (.int .u32 0), (.int .u32 0), (.int .u32 0), (.int .u32 0), (.int .u32 0), (.int .u32 0), (.int .u32 0), (.int .u32 0), (.int .u32 0), (.int .u32 0), (.int .u32 0), (.int .u32 0), (.int .u32 0), (.int .u32 0), (.int .u32 0), (.int .u32 0), (.int .u32 0), (.int .u32 0), (.int .u32 0), (.int .u32 0), (.int .u32 0), (.int .u32 0), (.int .u32 0), (.int .u32 0), (.int .u32 0), (.int .u32 0), (.int .u32 0), (.int .u32 0), (.int .u32 0), (.int .u32 0), (.int .u32 0), (.int .u32 0), (.int .u32 0), (.int .u32 0), (.int .u32 0), (.int .u32 0), (.int .u32 0), (.int .u32 0), (.int .u32 0), (.int .u32 0), (.int .u32 0), (.int .u32 0), (.int .u32 0), (.int .u32 0), (.int .u32 0), (.int .u32 0), (.int .u32 0), (.int .u32 0), (.int .u32 0), (.int .u32 0), (.int .u32 0), (.int .u32 0), (.int .u32 0), (.int .u32 0), (.int .u32 0), (.int .u32 0), (.int .u32 0), (.int .u32 0), (.int .u32 0), (.int .u32 0), (.int .u32 0), (.int .u32 0), (.int .u32 0), (.int .u32 0), (.int .u32 0), (.int .u32 0), (.int .u32 0), (.int .u32 0), (.int .u32 0), (.int .u32 0), (.int .u32 0), (.int .u32 0), (.int .u32 0), (.int .u32 0), (.int .u32 0), (.int .u32 0), (.int .u32 0), (.int .u32 0), (.int .u32 0), (.int .u32 0), (.int .u32 0), (.int .u32 0), (.int .u32 0), (.int .u32 0), (.int .u32 0), (.int .u32 0), (.int .u32 0), (.int .u32 0), (.int .u32 0), (.int .u32 0), (.int .u32 0), (.int .u32 0), (.int .u32 0), (.int .u32 0), (.int .u32 0), (.int .u32 0), (.int .u32 0), (.int .u32 0), (.int .u32 0), (.int .u32 0), (.int .u32 0), (.int .u32 0), (.int .u32 0), (.int .u32 0), (.int .u32 0), (.int .u32 0), (.int .u32 0), (.int .u32 0), (.int .u32 0), (.int .u32 0), (.int .u32 0), (.int .u32 0), (.int .u32 0), (.int .u32 0), (.int .u32 0), (.int .u32 0), (.int .u32 0), (.int .u32 0), (.int .u32 0), (.int .u32 0), (.int .u32 0), (.int .u32 0), (.int .u32 0), (.int .u32 0), (.int .u32 0), (.int .u32 0), (.int .u32 0), (.int .u32 0), (.int .u32 0), (.int .u32 0), (.int .u32 0), (.int .u32 0), (.int .u32 0), (.int .u32 0), (.int .u32 0), (.int .u32 0), (.int .u32 0), (.int .u32 0), (.int .u32 0), (.int .u32 0), (.int .u32 0), (.int .u32 0), (.int .u32 0), (.int .u32 0), (.int .u32 0), (.int .u32 0), (.int .u32 0), (.int .u32 0), (.int .u32 0), (.int .u32 0), (.int .u32 0), (.int .u32 0), (.int .u32 0), (.int .u32 0), (.int .u32 0), (.int .u32 0), (.int .u32 0), (.int .u32 0), (.int .u32 0), (.int .u32 0), (.int .u32 0), (.int .u32 0), (.int .u32 0), (.int .u32 0), (.int .u32 0), (.int .u32 0), (.int .u32 0), (.int .u32 0), (.int .u32 0), (.int .u32 0), (.int .u32 0), (.int .u32 0), (.int .u32 0), (.int .u32 0), (.int .u32 0), (.int .u32 0), (.int .u32 0), (.int .u32 0), (.int .u32 0), (.int .u32 0), (.int .u32 0), (.int .u32 0), (.int .u32 0), (.int .u32 0), (.int .u32 0), (.int .u32 0), (.int .u32 0), (.int .u32 0), (.int .u32 0), (.int .u32 0), (.int .u32 0), (.int .u32 0), (.int .u32 0), (.int .u32 0), (.int .u32 0), (.int .u32 0), (.int .u32 0), (.int .u32 0), (.int .u32 0), (.int .u32 0)]),
 sr 256 (tm 4) (tm 23)])
 (.seq (.reg [mo 24 (tm 3),
 ca 25 57 [(tm 24), (.const (.string ⟨#[111, 116, 104, 101, 114]⟩)), (.const (.string ⟨#[120]⟩))]])
 (.seq (.reg [mo 27 (tm 3),
 ca 28 53 [(tm 27), (tm 4)],
 mo 26 (tm 28),
 ex 29 (tm 26) 0,
 ex 30 (tm 26) 1,
 ex 31 (tm 26) 2,
 oo 6 (.alloc [(.int .u64 0), (.int .u8 0), (.int .u64 0), (.int .u64 0), (.int .u8 0), (.string ⟨#[]⟩), (.string ⟨#[]⟩), (.string ⟨#[]⟩), (.string ⟨#[]⟩), (.string ⟨#[]⟩), (.slice none 0 0)]),
 mo 5 (tm 29),
 sr 11 (tm 6) (tm 30),
 mo 7 (tm 31)])
 (.seq (.keep [0, 3, 4, 5, 6, 7])
 (.seq (.seq (.reg [mo 32 (tm 7),
 b2 33 .neq 39 (tm 32) (ki 0) 39 4,
 mo 34 (tm 33),
 ⟨(some 35), (some (34, false)), .mv (tm 5)⟩,
 ⟨(some 36), (some (34, false)), .cmpref 0 false (tm 35) (.const (.pointer none))⟩,
 oo 37 (.pick (tm 34) (kB true) (tm 36)),
 mo 38 (tm 37),
 ⟨(some 39), (some (38, false)), .ldn 11 (tm 6)⟩,
 ⟨(some 40), (some (38, false)), .call 44 [(tm 39)]⟩,
 ⟨(some 41), (some (38, false)), .build [(.int .u64 0), (.int .u8 0), (.int .u64 0), (.int .u64 0), (.int .u8 0), (.string ⟨#[]⟩), (.string ⟨#[]⟩), (.string ⟨#[]⟩), (.string ⟨#[]⟩), (.string ⟨#[]⟩), (.slice none 0 0)] []⟩,
 ⟨(some 42), (some (38, false)), .call 50 [(tm 40), (tm 41)]⟩,
 ⟨(some 43), (some (38, false)), .prim ⟨none, (.unOp .not 4 (tm 42)), 4, "", #[], none⟩⟩,
 oo 44 (.pick (tm 38) (kB true) (tm 43))])
 (.seq (.keep [0, 3, 4, 5, 44])
 (.cond (tm 44) (.seq (.reg [mo 2 (kB false)])
 .ret)
 .skip)))
 (.seq (.keep [0, 3, 4, 5])
 (.seq (.reg [oo 45 (.build [(.int .u64 0), (.int .u8 0), (.int .u64 0), (.int .u64 0), (.int .u8 0), (.string ⟨#[]⟩), (.string ⟨#[]⟩), (.string ⟨#[]⟩), (.string ⟨#[]⟩), (.string ⟨#[]⟩), (.slice none 0 0)] []),
 oo 8 (.alloc [(.int .u64 0), (.int .u8 0), (.int .u64 0), (.int .u64 0), (.int .u8 0), (.string ⟨#[]⟩), (.string ⟨#[]⟩), (.string ⟨#[]⟩), (.string ⟨#[]⟩), (.string ⟨#[]⟩), (.slice none 0 0)]),
 sr 11 (tm 8) (tm 45)])
 (.seq (.seq (.reg [mo 9 (ki 0)])
 (.block 0 lp12x0))
 (.seq (.keep [])
 (.seq (.reg [ca 141 45 [],
 mo 2 (tm 141)])
 .ret))))))))))))))⟩

def lp13x0 : LCode := .loop (.seq (.keep [0, 3, 4, 5, 6, 9, 12, 14, 15])
 (.seq (.seq (.reg [mo 88 (tm 14),
 b2 89 .eql 39 (tm 88) (ki 0) 39 4,
 mo 90 (tm 89),
 ⟨(some 91), (some (90, true)), .mv (tm 15)⟩,
 ⟨(some 92), (some (90, true)), .mv (tm 0)⟩,
 ⟨(some 93), (some (90, true)), .mv (tm 12)⟩,
 ⟨(some 94), (some (90, true)), .iadrs 10 (tm 92) (tm 93)⟩,
 ⟨(some 95), (some (90, true)), .fadr 1 (tm 94)⟩,
 ⟨(some 96), (some (90, true)), .ld1 (tm 95)⟩,
 ⟨(some 97), (some (90, true)), .len false (tm 96)⟩,
 ⟨(some 98), (some (90, true)), .prim ⟨none, (.binOp .lss 3 (tm 91) (tm 97) 3), 4, "", #[], none⟩⟩,
 oo 99 (.pick (tm 90) (tm 98) (kB false))])
 (.seq (.keep [0, 3, 4, 5, 6, 9, 12, 14, 15, 99])
 (.cond (tm 99) .skip
 (.exit 3))))
 (.seq (.keep [0, 3, 4, 5, 6, 9, 12, 14, 15])
 (.seq (.block 4 (.seq (.reg [mo 102 (tm 9),
 mo 103 (tm 0),
 mo 104 (tm 12),
 is 105 10 (tm 103) (tm 104),
 fa 106 1 (tm 105),
 l1 107 (tm 106),
 mo 108 (tm 15),
 is 109 16 (tm 107) (tm 108),
 l2 110 16 (tm 109),
 oo 111 (.bslice 16 1 [(.int .u8 0), (.int .u64 0), (.int .u8 0), (.int .u64 0), (.int .u64 0), (.int .u8 0), (.int .u8 0), (.int .u8 0), (.int .u8 0), (.int .u8 0), (.int .u8 0), (.int .u8 0), (.int .u8 0), (.int .u8 0), (.int .u8 0), (.string ⟨#[]⟩)] [(0, 16, (tm 110))]),
 ca 112 58 [(tm 102), (tm 111)],
 b2 113 .neq 39 (tm 112) (ki 0) 39 4])
 (.seq (.keep [0, 3, 4, 5, 6, 9, 12, 14, 15, 113])
 (.cond (tm 113) (.seq (.reg [mo 2 (kB false)])
 .ret)
 .skip))))
 (.seq (.keep [0, 3, 4, 5, 6, 9, 12, 14, 15])
 (.reg [mo 100 (tm 15),
 b2 101 .add 3 (tm 100) (ki 1) 3 3,
 mo 15 (tm 101)]))))))

def lp13x1 : LCode := .loop (.seq (.keep [0, 3, 4, 5, 6, 9, 12])
 (.seq (.seq (.reg [mo 55 (tm 12),
 mo 56 (tm 0),
 le 57 false (tm 56),
 b2 58 .lss 3 (tm 55) (tm 57) 3 4])
 (.cond (tm 58) .skip
 (.exit 0)))
 (.seq (.keep [0, 3, 4, 5, 6, 9, 12])
 (.seq (.block 1 (.seq (.reg [mo 61 (tm 0),
 mo 62 (tm 12),
 is 63 10 (tm 61) (tm 62),
 fa 64 0 (tm 63),
 l1 65 (tm 64)])
 (.block 2 (.seq (.reg [b2 67 .eql 5 (tm 65) (kb 0) 5 4,
 mo 66 (tm 67)])
 (.cond (tm 66) (.seq (.dreg [mo 69 (tm 9),
 ca 70 60 [(tm 69)],
 mo 71 (tm 0),
 mo 72 (tm 12),
 is 73 10 (tm 71) (tm 72),
 fa 74 1 (tm 73),
 l1 75 (tm 74),
 ca 76 46 [(tm 70), (tm 75)],
 mo 68 (tm 76),
 ex 77 (tm 68) 0,
 ex 78 (tm 68) 1,
 oo 13 (.alloc [(.int .u64 0), (.int .u8 0), (.int .u64 0), (.int .u64 0), (.int .u8 0), (.string ⟨#[]⟩), (.string ⟨#[]⟩), (.string ⟨#[]⟩), (.string ⟨#[]⟩), (.string ⟨#[]⟩), (.slice none 0 0)]),
 sr 11 (tm 13) (tm 77),
 mo 14 (tm 78)] [(6, 0, 1)])
 (.seq (.keep [0, 3, 4, 5, 6, 9, 12, 14])
 (.seq (.seq (.reg [mo 79 (tm 6),
 mo 80 (tm 0),
 mo 81 (tm 12),
 is 82 10 (tm 80) (tm 81),
 fa 83 1 (tm 82),
 l1 84 (tm 83),
 ca 85 58 [(tm 79), (tm 84)],
 mo 86 (tm 14),
 b2 87 .neq 39 (tm 85) (tm 86) 39 4])
 (.seq (.keep [0, 3, 4, 5, 6, 9, 12, 14, 87])
 (.cond (tm 87) (.seq (.reg [mo 2 (kB false)])
 .ret)
 .skip)))
 (.seq (.keep [0, 3, 4, 5, 6, 9, 12, 14])
 (.seq (.reg [mo 15 (ki 0)])
 (.block 3 lp13x0))))))
 (.seq (.reg [b2 115 .eql 5 (tm 65) (kb 1) 5 4,
 mo 114 (tm 115)])
 (.cond (tm 114) (.seq (.dreg [mo 116 (tm 6),
 mo 117 (tm 0),
 mo 118 (tm 12),
 is 119 10 (tm 117) (tm 118),
 fa 120 2 (tm 119),
 l2 121 8 (tm 120),
 ca 122 59 [(tm 116), (tm 121)],
 mo 123 (tm 9),
 mo 124 (tm 0),
 mo 125 (tm 12),
 is 126 10 (tm 124) (tm 125),
 fa 127 2 (tm 126),
 l2 128 8 (tm 127),
 ca 129 59 [(tm 123), (tm 128)],
 b2 130 .neq 39 (tm 122) (tm 129) 39 4] [(12, 0, 1)])
 (.seq (.keep [0, 3, 4, 5, 6, 9, 12, 130])
 (.cond (tm 130) (.seq (.reg [mo 2 (kB false)])
 .ret)
 .skip)))
 .skip)))))))
 (.seq (.keep [0, 3, 4, 5, 6, 9, 12])
 (.reg [mo 59 (tm 12),
 b2 60 .add 3 (tm 59) (ki 1) 3 3,
 mo 12 (tm 60)]))))))

def lf13 : LFunc := ⟨1, [.tmp 2],
 (.seq (.reg [mo 2 (kB false)])
 (.seq (.seq (.reg [mo 23 (tm 0),
 ca 24 51 [(tm 23)]])
 (.cond (tm 24) (.seq (.reg [ca 25 45 [],
 mo 2 (tm 25)])
 .ret)
 .skip))
 (.seq (.keep [0])
 (.seq (.reg [ca 26 18 [],
 mo 3 (tm 26)])
 (.seq (.reg [ca 27 18 [],
 mo 4 (tm 27)])
 (.seq (.reg [ca 28 19 [],
 oo 5 (.alloc [(.int .u32 0), (.int .u32 0), (.int .u32 0), (.int .u32 0), (.int .u32 0), (.int .u32 0), (.int .u32 0), (.int .u32 0), (.int .u32 0), (.int .u32 0), (.int .u32 0), (.int .u32 0), (.int .u32 0), (.int .u32 0), (.int .u32 0), (.int .u32 0), (.int .u32 0), (.int .u32 0), (.int .u32 0), (.int .u32 0), (.int .u32 0), (.int .u32 0), (.int .u32 0), (.int .u32 0), (.int .u32 0), (.int .u32 0), (.int .u32 0), (.int .u32 0), (.int .u32 0), (.int .u32 0), (.int .u32 0), (.int .u32 0), (.int .u32 0), (.int .u32 0), (.int .u32 0), (.int .u32 0), (.int .u32 0), (.int .u32 0), (.int .u32 0), (.int .u32 0), (.int .u32 0), (.int .u32 0), (.int .u32 0), (.int .u32 0), (.int .u32 0), (.int .u32 0), (.int .u32 0), (.int .u32 0), (.int .u32 0), (.int .u32 0), (.int .u32 0), (.int .u32 0), (.int .u32 0), (.int .u32 0), (.int .u32 0), (.int .u32 0), (.int .u32 0), (.int .u32 0), (.int .u32 0), (.int .u32 0), (.int .u32 0), (.int .u32 0), (.int .u32 0), (.int .u32 0), (.int .u32 0), (.int .u32 0), (.int .u32 0), (.int .u32 0), (.int .u32 0), (.int .u32 0), (.int .u32 0), (.int .u32 0), (.int .u32 0), (.int .u32 0), (.int .u32 0), (.int .u32 0), (.int .u32 0), (.int .u32 0), (.int .u32 0), (.int .u32 0), (.int .u32 0), (.int .u32 0), (.int .u32 0), (.int .u32 0), (.int .u32 0), (.int .u32 0), (.int .u32 0), (.int .u32 0), (.int .u32 0), (.int .u32 0), (.int .u32 0), (.int .u32 0), (.int .u32 0), (.int .u32 0), (.int .u32 0), (.int .u32 0), (.int .u32 0), (.int .u32 0), (.int .u32 0), (.int .u32 0), (.int .u32 0), (.int .u32 0), (.int .u32 0), (.int .u32 0), (.int .u32 0), (.int .u32 0), (.int .u32 0), (.int .u32 0), (.int .u32 0), (.int .u32 0), (.int .u32 0), (.int .u32 0), (.int .u32 0), (.int .u32 0), (.int .u32 0), (.int .u32 0), (.int .u32 0), (.int .u32 0), (.int .u32 0), (.int .u32 0), (.int .u32 0), (.int .u32 0), (.int .u32 0), (.int .u32 0), (.int .u32 0), (.int .u32 0), (.int .u32 0), (.int .u32 0), (.int .u32 0), (.int .u32 0), (.int .u32 0), (.int .u32 0), (.int .u32 0), (.int .u32 0), (.int .u32 0), (.int .u32 0), (.int .u32 0), (.int .u32 0), (.int .u32 0), (.int .u32 0), (.int .u32 0), (.int .u32 0), (.int .u32 0), (.int .u32 0), (.int .u32 0), (.int .u32 0), (.int .u32 0), (.int .u32 0), (.int .u32 0), (.int .u32 0), (.int .u32 0), (.int .u32 0), (.int .u32 0), (.int .u32 0), (.int .u32 0), (.int .u32 0), (.int .u32 0), (.int .u32 0), (.int .u32 0), (.int .u32 0), (.int .u32 0), (.int .u32 0), (.int .u32 0), (.int .u32 0), (.int .u32 0), (.int .u32 0), (.int .u32 0), (.int .u32 0), (.int .u32 0), (.int .u32 0), (.int .u32 0), (.int .u32 0), (.int .u32 0), (.int .u32 0), (.int .u32 0), (.int .u32 0), (.int .u32 0), (.int .u32 0), (.int .u32 0), (.int .u32 0), (.int .u32 0), (.int .u32 0), (.int .u32 0), (.int .u32 0), (.int .u32 0), (.int .u32 0), (.int .u32 0), (.int .u32 0), (.int .u32 0), (.int .u32 0), (.int .u32 0), (.int .u32 0), (.int .u32 0), (.int .u32 0), (.int .u32 0), (.int .u32 0), (.int .u32 0), (.int .u32 0), (.int .u32 0), (.int .u32 0), (.int .u32 0), (.int .u32 0), (.int .u32 0), (.int .u32 0), (.int .u32 0), (.int .u32 0), (.int .u32 0), (.int .u32 0), (.int .u32 0), (.int .u32 0), (.int .u32 0), (.int .u32 0), (.int .u32 0), (.int .u32 0), (.int .u32 0), (.int .u32 0), (.int .u32 0), (.int .u32 0), (.int .u32 0), (.int .u32 0), (.int .u32 0), (.int .u32 0), (.int .u32 0), (.int .u32 0), (.int .u32 0), (.int .u32 0), (.int .u32 0), (.int .u32 0), (.int .u32 0), (.int .u32 0), (.int .u32 0), (.int .u32 0), (.int .u32 0), (.int .u32 0), (.int .u32 0), (.int .u32 0), (.int .u32 0), (.int .u32 0), (.int .u32 0), (.int .u32 0), (.int .u32 0), (.int .u32 0), (.int .u32 0), (.int .u32 0), (.int .u32 0), (.int .u32 0), (.int .u32 0), (.int .u32 0), (.int .u32 0), (.int .u32 0), (.int .u32 0), (.int .u32 0), (.int .u32 0), (.int .u32 0), (.int .u32 0), (.int .u32 0)]),
 sr 256 (tm 5) (tm 28)])
 (.seq (.reg [mo 30 (tm 3),
 ca 31 53 [(tm 30), (tm 5)],
 mo 29 (tm 31),
 ex 32 (tm 29) 0,
 ex 33 (tm 29) 1,
 ex 34 (tm 29) 2,
 oo 7 (.alloc [(.int .u64 0), (.int .u8 0), (.int .u64 0), (.int .u64 0), (.int .u8 0), (.string ⟨#[]⟩), (.string ⟨#[]⟩), (.string ⟨#[]⟩), (.string ⟨#[]⟩), (.string ⟨#[]⟩), (.slice none 0 0)]),
 mo 6 (tm 32),
 sr 11 (tm 7) (tm 33),
 mo 8 (tm 34)])
 (.seq (.keep [0, 3, 4, 5, 6, 8])
 (.seq (.reg [mo 36 (tm 4),
 ca 37 53 [(tm 36), (tm 5)],
 mo 35 (tm 37),
 ex 38 (tm 35) 0,
 ex 39 (tm 35) 1,
 ex 40 (tm 35) 2,
 oo 10 (.alloc [(.int .u64 0), (.int .u8 0), (.int .u64 0), (.int .u64 0), (.int .u8 0), (.string ⟨#[]⟩), (.string ⟨#[]⟩), (.string ⟨#[]⟩), (.string ⟨#[]⟩), (.string ⟨#[]⟩), (.slice none 0 0)]),
 mo 9 (tm 38),
 sr 11 (tm 10) (tm 39),
 mo 11 (tm 40)])
 (.seq (.keep [0, 3, 4, 5, 6, 8, 9, 11])
 (.seq (.seq (.reg [mo 41 (tm 8),
 b2 42 .neq 39 (tm 41) (ki 0) 39 4,
 mo 43 (tm 42),
 ⟨(some 44), (some (43, false)), .mv (tm 11)⟩,
 ⟨(some 45), (some (43, false)), .prim ⟨none, (.binOp .neq 39 (tm 44) (ki 0) 39), 4, "", #[], none⟩⟩,
 oo 46 (.pick (tm 43) (kB true) (tm 45)),
 mo 47 (tm 46),
 ⟨(some 48), (some (47, false)), .mv (tm 6)⟩,
 ⟨(some 49), (some (47, false)), .cmpref 0 false (tm 48) (.const (.pointer none))⟩,
 oo 50 (.pick (tm 47) (kB true) (tm 49)),
 mo 51 (tm 50),
 ⟨(some 52), (some (51, false)), .mv (tm 9)⟩,
 ⟨(some 53), (some (51, false)), .cmpref 0 false (tm 52) (.const (.pointer none))⟩,
 oo 54 (.pick (tm 51) (kB true) (tm 53))])
 (.seq (.keep [0, 3, 4, 5, 6, 9, 54])
 (.cond (tm 54) (.seq (.reg [mo 2 (kB false)])
 .ret)
 .skip)))
 (.seq (.keep [0, 3, 4, 5, 6, 9])
 (.seq (.seq (.reg [mo 12 (ki 0)])
 (.block 0 lp13x1))
 (.seq (.keep [3, 4, 5, 6])
 (.seq (.reg [mo 132 (tm 3),
 ca 133 53 [(tm 132), (tm 5)],
 mo 131 (tm 133),
 ex 134 (tm 131) 0,
 ex 135 (tm 131) 1,
 ex 136 (tm 131) 2,
 oo 17 (.alloc [(.int .u64 0), (.int .u8 0), (.int .u64 0), (.int .u64 0), (.int .u8 0), (.string ⟨#[]⟩), (.string ⟨#[]⟩), (.string ⟨#[]⟩), (.string ⟨#[]⟩), (.string ⟨#[]⟩), (.slice none 0 0)]),
 mo 16 (tm 134),
 sr 11 (tm 17) (tm 135),
 mo 8 (tm 136)])
 (.seq (.keep [3, 4, 5, 6, 8, 17])
 (.seq (.reg [mo 138 (tm 3),
 ca 139 53 [(tm 138), (tm 5)],
 mo 137 (tm 139),
 ex 140 (tm 137) 0,
 ex 141 (tm 137) 1,
 ex 142 (tm 137) 2,
 oo 19 (.alloc [(.int .u64 0), (.int .u8 0), (.int .u64 0), (.int .u64 0), (.int .u8 0), (.string ⟨#[]⟩), (.string ⟨#[]⟩), (.string ⟨#[]⟩), (.string ⟨#[]⟩), (.string ⟨#[]⟩), (.slice none 0 0)]),
 mo 18 (tm 140),
 sr 11 (tm 19) (tm 141),
 mo 11 (tm 142)])
 (.seq (.keep [4, 5, 6, 8, 11, 17, 19])
 (.seq (.reg [mo 144 (tm 4),
 ca 145 53 [(tm 144), (tm 5)],
 mo 143 (tm 145),
 ex 146 (tm 143) 0,
 ex 147 (tm 143) 1,
 ex 148 (tm 143) 2,
 oo 21 (.alloc [(.int .u64 0), (.int .u8 0), (.int .u64 0), (.int .u64 0), (.int .u8 0), (.string ⟨#[]⟩), (.string ⟨#[]⟩), (.string ⟨#[]⟩), (.string ⟨#[]⟩), (.string ⟨#[]⟩), (.slice none 0 0)]),
 mo 20 (tm 146),
 sr 11 (tm 21) (tm 147),
 mo 22 (tm 148)])
 (.seq (.keep [6, 8, 11, 17, 19, 21, 22])
 (.seq (.dreg [mo 149 (tm 8),
 b2 150 .eql 39 (tm 149) (ki 0) 39 4,
 mo 151 (tm 150),
 ⟨(some 152), (some (151, true)), .mv (tm 11)⟩,
 ⟨(some 153), (some (151, true)), .prim ⟨none, (.binOp .eql 39 (tm 152) (ki 0) 39), 4, "", #[], none⟩⟩,
 oo 154 (.pick (tm 151) (tm 153) (kB false)),
 mo 155 (tm 154),
 ⟨(some 156), (some (155, true)), .mv (tm 22)⟩,
 ⟨(some 157), (some (155, true)), .prim ⟨none, (.binOp .eql 39 (tm 156) (ki 0) 39), 4, "", #[], none⟩⟩,
 oo 158 (.pick (tm 155) (tm 157) (kB false)),
 mo 159 (tm 158),
 ⟨(some 160), (some (159, true)), .ldn 11 (tm 17)⟩,
 ⟨(some 161), (some (159, true)), .call 44 [(tm 160)]⟩,
 ⟨(some 162), (some (159, true)), .ldn 11 (tm 19)⟩,
 ⟨(some 163), (some (159, true)), .call 44 [(tm 162)]⟩,
 ⟨(some 164), (some (159, true)), .call 50 [(tm 161), (tm 163)]⟩,
 oo 165 (.pick (tm 159) (tm 164) (kB false)),
 mo 166 (tm 165),
 ⟨(some 167), (some (166, true)), .ldn 11 (tm 17)⟩,
 ⟨(some 168), (some (166, true)), .call 44 [(tm 167)]⟩,
 ⟨(some 169), (some (166, true)), .ldn 11 (tm 21)⟩,
 ⟨(some 170), (some (166, true)), .call 44 [(tm 169)]⟩,
 ⟨(some 171), (some (166, true)), .call 50 [(tm 168), (tm 170)]⟩,
 oo 172 (.pick (tm 166) (tm 171) (kB false)),
 mo 173 (tm 172),
 ⟨(some 174), (some (173, true)), .ldn 11 (tm 17)⟩,
 ⟨(some 175), (some (173, true)), .call 44 [(tm 174)]⟩,
 ⟨(some 176), (some (173, true)), .mv (tm 6)⟩,
 ⟨(some 177), (some (173, true)), .call 60 [(tm 176)]⟩,
 ⟨(some 178), (some (173, true)), .call 44 [(tm 177)]⟩,
 ⟨(some 179), (some (173, true)), .call 50 [(tm 175), (tm 178)]⟩,
 oo 180 (.pick (tm 173) (tm 179) (kB false)),
 mo 181 (tm 180),
 ⟨(some 182), (some (181, true)), .call 45 []⟩,
 oo 183 (.pick (tm 181) (tm 182) (kB false)),
 mo 2 (tm 183)] [(13, 0, 1), (20, 3, 4)])
 (.seq (.keep [2])
 .ret))))))))))))))))))))))⟩

def lf14 : LFunc := ⟨0, [.tmp 0],
 (.seq (.reg [mo 0 (kB false)])
 (.seq (.reg [ca 29 18 [],
 mo 1 (tm 29)])
 (.seq (.reg [ca 30 19 [],
 oo 2 (.alloc [(.int .u32 0), (.int .u32 0), (.int .u32 0), (.int .u32 0), (.int .u32 0), (.int .u32 0), (.int .u32 0), (.int .u32 0), (.int .u32 0), (.int .u32 0), (.int .u32 0), (.int .u32 0), (.int .u32 0), (.int .u32 0), (.int .u32 0), (.int .u32 0), (.int .u32 0), (.int .u32 0), (.int .u32 0), (.int .u32 0), (.int .u32 0), (.int .u32 0), (.int .u32 0), (.int .u32 0), (.int .u32 0), (.int .u32 0), (.int .u32 0), (.int .u32 0), (.int .u32 0), (.int .u32 0), (.int .u32 0), (.int .u32 0), (.int .u32 0), (.int .u32 0), (.int .u32 0), (.int .u32 0), (.int .u32 0), (.int .u32 0), (.int .u32 0), (.int .u32 0), (.int .u32 0), (.int .u32 0), (.int .u32 0), (.int .u32 0), (.int .u32 0), (.int .u32 0), (.int .u32 0), (.int .u32 0), (.int .u32 0), (.int .u32 0), (.int .u32 0), (.int .u32 0), (.int .u32 0), (.int .u32 0), (.int .u32 0), (.int .u32 0), (.int .u32 0), (.int .u32 0), (.int .u32 0), (.int .u32 0), (.int .u32 0), (.int .u32 0), (.int .u32 0), (.int .u32 0), (.int .u32 0), (.int .u32 0), (.int .u32 0), (.int .u32 0), (.int .u32 0), (.int .u32 0), (.int .u32 0), (.int .u32 0), (.int .u32 0), (.int .u32 0), (.int .u32 0), (.int .u32 0), (.int .u32 0), (.int .u32 0), (.int .u32 0), (.int .u32 0), (.int .u32 0), (.int .u32 0), (.int .u32 0), (.int .u32 0), (.int .u32 0), (.int .u32 0), (.int .u32 0), (.int .u32 0), (.int .u32 0), (.int .u32 0), (.int .u32 0), (.int .u32 0), (.int .u32 0), (.int .u32 0), (.int .u32 0), (.int .u32 0), (.int .u32 0), (.int .u32 0), (.int .u32 0), (.int .u32 0), (.int .u32 0), (.int .u32 0), (.int .u32 0), (.int .u32 0), (.int .u32 0), (.int .u32 0), (.int .u32 0), (.int .u32 0), (.int .u32 0), (.int .u32 0), (.int .u32 0), (.int .u32 0), (.int .u32 0), (.int .u32 0), (.int .u32 0), (.int .u32 0), (.int .u32 0), (.int .u32 0), (.int .u32 0), (.int .u32 0), (.int .u32 0), (.int .u32 0), (.int .u32 0), (.int .u32 0), (.int .u32 0), (.int .u32 0), (.int .u32 0), (.int .u32 0), (.int .u32 0), (.int .u32 0), (.int .u32 0), (.int .u32 0), (.int .u32 0), (.int .u32 0), (.int .u32 0), (.int .u32 0), (.int .u32 0), (.int .u32 0), (.int .u32 0), (.int .u32 0), (.int .u32 0), (.int .u32 0), (.int .u32 0), (.int .u32 0), (.int .u32 0), (.int .u32 0), (.int .u32 0), (.int .u32 0), (.int .u32 0), (.int .u32 0), (.int .u32 0), (.int .u32 0), (.int .u32 0), (.int .u32 0), (.int .u32 0), (.int .u32 0), (.int .u32 0), (.int .u32 0), (.int .u32 0), (.int .u32 0), (.int .u32 0), (.int .u32 0), (.int .u32 0), (.int .u32 0), (.int .u32 0), (.int .u32 0), (.int .u32 0), (.int .u32 0), (.int .u32 0), (.int .u32 0), (.int .u32 0), (.int .u32 0), (.int .u32 0), (.int .u32 0), (.int .u32 0), (.int .u32 0), (.int .u32 0), (.int .u32 0), (.int .u32 0), (.int .u32 0), (.int .u32 0), (.int .u32 0), (.int .u32 0), (.int .u32 0), (.int .u32 0), (.int .u32 0), (.int .u32 0), (.int .u32 0), (.int .u32 0), (.int .u32 0), (.int .u32 0), (.int .u32 0), (.int .u32 0), (.int .u32 0), (.int .u32 0), (.int .u32 0), (.int .u32 0), (.int .u32 0), (.int .u32 0), (.int .u32 0), (.int .u32 0), (.int .u32 0), (.int .u32 0), (.int .u32 0), (.int .u32 0), (.int .u32 0), (.int .u32 0), (.int .u32 0), (.int .u32 0), (.int .u32 0), (.int .u32 0), (.int .u32 0), (.int .u32 0), (.int .u32 0), (.int .u32 0), (.int .u32 0), (.int .u32 0), (.int .u32 0), (.int .u32 0), (.int .u32 0), (.int .u32 0), (.int .u32 0), (.int .u32 0), (.int .u32 0), (.int .u32 0), (.int .u32 0), (.int .u32 0), (.int .u32 0), (.int .u32 0), (.int .u32 0), (.int .u32 0), (.int .u32 0), (.int .u32 0), (.int .u32 0), (.int .u32 0), (.int .u32 0), (.int .u32 0), (.int .u32 0), (.int .u32 0), (.int .u32 0), (.int .u32 0), (.int .u32 0), (.int .u32 0), (.int .u32 0), (.int .u32 0), (.int .u32 0), (.int .u32 0), (.int .u32 0), (.int .u32 0), (.int .u32 0), (.int .u32 0), (.int .u32 0), (.int .u32 0), (.int .u32 0), (.int .u32 0), (.int .u32 0)]),
 sr 256 (tm 2) (tm 30)])
 (.seq (.reg [mo 32 (tm 1),
 ca 33 53 [(tm 32), (tm 2)],
 mo 31 (tm 33),
 ex 34 (tm 31) 0,
 ex 35 (tm 31) 1,
 ex 36 (tm 31) 2,
 oo 4 (.alloc [(.int .u64 0), (.int .u8 0), (.int .u64 0), (.int .u64 0), (.int .u8 0), (.string ⟨#[]⟩), (.string ⟨#[]⟩), (.string ⟨#[]⟩), (.string ⟨#[]⟩), (.string ⟨#[]⟩), (.slice none 0 0)]),
 mo 3 (tm 34),
 sr 11 (tm 4) (tm 35),
 mo 5 (tm 36)])
 (.seq (.keep [1, 2, 3, 5])
 (.seq (.seq (.reg [mo 37 (tm 5),
 b2 38 .neq 39 (tm 37) (ki 0) 39 4,
 mo 39 (tm 38),
 ⟨(some 40), (some (39, false)), .mv (tm 3)⟩,
 ⟨(some 41), (some (39, false)), .cmpref 0 false (tm 40) (.const (.pointer none))⟩,
 oo 42 (.pick (tm 39) (kB true) (tm 41))])
 (.cond (tm 42) (.seq (.reg [mo 0 (kB false)])
 .ret)
 .skip))
 (.seq (.keep [1, 2, 3])
 (.seq (.reg [mo 43 (tm 3),
 ca 44 62 [(ku 1), (kb 2)],
 ca 45 63 [(ku 1), (ku 1)],
 oo 46 (.bslice 16 2 [(.int .u8 0), (.int .u64 0), (.int .u8 0), (.int .u64 0), (.int .u64 0), (.int .u8 0), (.int .u8 0), (.int .u8 0), (.int .u8 0), (.int .u8 0), (.int .u8 0), (.int .u8 0), (.int .u8 0), (.int .u8 0), (.int .u8 0), (.string ⟨#[]⟩)] [(0, 16, (tm 44)), (16, 16, (tm 45))]),
 ca 47 58 [(tm 43), (tm 46)],
 mo 6 (tm 47)])
 (.seq (.reg [mo 48 (tm 1),
 ca 49 64 [(tm 48)],
 mo 7 (tm 49)])
 (.seq (.seq (.reg [mo 50 (tm 6),
 b2 51 .neq 39 (tm 50) (ki 0) 39 4,
 mo 52 (tm 51),
 ⟨(some 53), (some (52, false)), .mv (tm 7)⟩,
 ⟨(some 54), (some (52, false)), .len false (tm 53)⟩,
 ⟨(some 55), (some (52, false)), .prim ⟨none, (.binOp .neq 3 (tm 54) (ki 1) 3), 4, "", #[], none⟩⟩,
 oo 56 (.pick (tm 52) (kB true) (tm 55)),
 mo 57 (tm 56),
 ⟨(some 58), (some (57, false)), .mv (tm 7)⟩,
 ⟨(some 59), (some (57, false)), .iadrs 1 (tm 58) (ki 0)⟩,
 ⟨(some 60), (some (57, false)), .ld1 (tm 59)⟩,
 ⟨(some 61), (some (57, false)), .prim ⟨none, (.binOp .neq 9 (tm 60) (.const (.string ⟨#[115, 101, 103, 46, 48, 48, 48, 48, 48, 48, 48, 49]⟩)) 9), 4, "", #[], none⟩⟩,
 oo 62 (.pick (tm 57) (kB true) (tm 61))])
 (.seq (.keep [1, 2, 3, 62])
 (.cond (tm 62) (.seq (.reg [mo 0 (kB false)])
 .ret)
 .skip)))
 (.seq (.keep [1, 2, 3])
 (.seq (.reg [mo 63 (tm 3),
 ca 64 65 [(ku 1), (ku 1)],
 ca 65 59 [(tm 63), (tm 64)],
 mo 8 (tm 65)])
 (.seq (.reg [mo 66 (tm 3),
 ca 67 63 [(ku 1), (ku 1)],
 oo 68 (.bslice 16 1 [(.int .u8 0), (.int .u64 0), (.int .u8 0), (.int .u64 0), (.int .u64 0), (.int .u8 0), (.int .u8 0), (.int .u8 0), (.int .u8 0), (.int .u8 0), (.int .u8 0), (.int .u8 0), (.int .u8 0), (.int .u8 0), (.int .u8 0), (.string ⟨#[]⟩)] [(0, 16, (tm 67))]),
 ca 69 58 [(tm 66), (tm 68)],
 mo 9 (tm 69)])
 (.seq (.reg [mo 70 (tm 3),
 ca 71 63 [(ku 2), (ku 1)],
 oo 72 (.bslice 16 1 [(.int .u8 0), (.int .u64 0), (.int .u8 0), (.int .u64 0), (.int .u64 0), (.int .u8 0), (.int .u8 0), (.int .u8 0), (.int .u8 0), (.int .u8 0), (.int .u8 0), (.int .u8 0), (.int .u8 0), (.int .u8 0), (.int .u8 0), (.string ⟨#[]⟩)] [(0, 16, (tm 71))]),
 ca 73 58 [(tm 70), (tm 72)],
 mo 10 (tm 73)])
 (.seq (.reg [mo 75 (tm 1),
 ca 76 53 [(tm 75), (tm 2)],
 mo 74 (tm 76),
 ex 77 (tm 74) 0,
 ex 78 (tm 74) 1,
 ex 79 (tm 74) 2,
 oo 11 (.alloc [(.int .u64 0), (.int .u8 0), (.int .u64 0), (.int .u64 0), (.int .u8 0), (.string ⟨#[]⟩), (.string ⟨#[]⟩), (.string ⟨#[]⟩), (.string ⟨#[]⟩), (.string ⟨#[]⟩), (.slice none 0 0)]),
 mo 3 (tm 77),
 sr 11 (tm 11) (tm 78),
 mo 12 (tm 79)])
 (.seq (.keep [1, 2, 3, 8, 9, 10, 11, 12])
 (.seq (.reg [mo 80 (tm 1),
 ca 81 64 [(tm 80)],
 mo 7 (tm 81)])
 (.seq (.seq (.dreg [mo 82 (tm 8),
 b2 83 .neq 39 (tm 82) (ki 0) 39 4,
 mo 84 (tm 83),
 ⟨(some 85), (some (84, false)), .mv (tm 9)⟩,
 ⟨(some 86), (some (84, false)), .prim ⟨none, (.binOp .neq 39 (tm 85) (ki 1) 39), 4, "", #[], none⟩⟩,
 oo 87 (.pick (tm 84) (kB true) (tm 86)),
 mo 88 (tm 87),
 ⟨(some 89), (some (88, false)), .mv (tm 10)⟩,
 ⟨(some 90), (some (88, false)), .prim ⟨none, (.binOp .neq 39 (tm 89) (ki 0) 39), 4, "", #[], none⟩⟩,
 oo 91 (.pick (tm 88) (kB true) (tm 90)),
 mo 92 (tm 91),
 ⟨(some 93), (some (92, false)), .mv (tm 12)⟩,
 ⟨(some 94), (some (92, false)), .prim ⟨none, (.binOp .neq 39 (tm 93) (ki 0) 39), 4, "", #[], none⟩⟩,
 oo 95 (.pick (tm 92) (kB true) (tm 94)),
 mo 96 (tm 95),
 ⟨(some 97), (some (96, false)), .mv (tm 3)⟩,
 ⟨(some 98), (some (96, false)), .cmpref 0 false (tm 97) (.const (.pointer none))⟩,
 oo 99 (.pick (tm 96) (kB true) (tm 98)),
 mo 100 (tm 99),
 ⟨(some 101), (some (100, false)), .fadr 0 (tm 11)⟩,
 ⟨(some 102), (some (100, false)), .ld1 (tm 101)⟩,
 ⟨(some 103), (some (100, false)), .prim ⟨none, (.binOp .neq 22 (tm 102) (ku 1) 22), 4, "", #[], none⟩⟩,
 oo 104 (.pick (tm 100) (kB true) (tm 103)),
 mo 105 (tm 104),
 ⟨(some 106), (some (105, false)), .fadr 1 (tm 11)⟩,
 ⟨(some 107), (some (105, false)), .ld1 (tm 106)⟩,
 ⟨(some 108), (some (105, false)), .prim ⟨none, (.binOp .neq 5 (tm 107) (kb 2) 5), 4, "", #[], none⟩⟩,
 oo 109 (.pick (tm 105) (kB true) (tm 108)),
 mo 110 (tm 109),
 ⟨(some 111), (some (110, false)), .fadr 2 (tm 11)⟩,
 ⟨(some 112), (some (110, false)), .ldn 8 (tm 111)⟩,
 ⟨(some 113), (some (110, false)), .call 65 [(ku 1), (ku 1)]⟩,
 ⟨(some 114), (some (110, false)), .prim ⟨none, (.binOp .neq 92 (tm 112) (tm 113) 92), 4, "", #[], none⟩⟩,
 oo 115 (.pick (tm 110) (kB true) (tm 114)),
 mo 116 (tm 115),
 ⟨(some 117), (some (116, false)), .fadr 10 (tm 11)⟩,
 ⟨(some 118), (some (116, false)), .ld1 (tm 117)⟩,
 ⟨(some 119), (some (116, false)), .len false (tm 118)⟩,
 ⟨(some 120), (some (116, false)), .prim ⟨none, (.binOp .neq 3 (tm 119) (ki 1) 3), 4, "", #[], none⟩⟩,
 oo 121 (.pick (tm 116) (kB true) (tm 120)),
 mo 122 (tm 121),
 ⟨(some 123), (some (122, false)), .fadr 10 (tm 11)⟩,
 ⟨(some 124), (some (122, false)), .ld1 (tm 123)⟩,
 ⟨(some 125), (some (122, false)), .iadrs 13 (tm 124) (ki 0)⟩,
 ⟨(some 126), (some (122, false)), .ldn 13 (tm 125)⟩,
 ⟨(some 127), (some (122, false)), .call 63 [(ku 2), (ku 1)]⟩,
 ⟨(some 128), (some (122, false)), .fld 3 13 true (tm 127)⟩,
 ⟨(some 129), (some (122, false)), .prim ⟨none, (.binOp .neq 54 (tm 126) (tm 128) 54), 4, "", #[], none⟩⟩,
 oo 130 (.pick (tm 122) (kB true) (tm 129)),
 mo 131 (tm 130),
 ⟨(some 132), (some (131, false)), .mv (tm 7)⟩,
 ⟨(some 133), (some (131, false)), .len false (tm 132)⟩,
 ⟨(some 134), (some (131, false)), .prim ⟨none, (.binOp .neq 3 (tm 133) (ki 2) 3), 4, "", #[], none⟩⟩,
 oo 135 (.pick (tm 131) (kB true) (tm 134)),
 mo 136 (tm 135),
 ⟨(some 137), (some (136, false)), .mv (tm 7)⟩,
 ⟨(some 138), (some (136, false)), .iadrs 1 (tm 137) (ki 0)⟩,
 ⟨(some 139), (some (136, false)), .ld1 (tm 138)⟩,
 ⟨(some 140), (some (136, false)), .prim ⟨none, (.binOp .neq 9 (tm 139) (.const (.string ⟨#[115, 101, 103, 46, 48, 48, 48, 48, 48, 48, 48, 51]⟩)) 9), 4, "", #[], none⟩⟩,
 oo 141 (.pick (tm 136) (kB true) (tm 140)),
 mo 142 (tm 141),
 ⟨(some 143), (some (142, false)), .mv (tm 7)⟩,
 ⟨(some 144), (some (142, false)), .iadrs 1 (tm 143) (ki 1)⟩,
 ⟨(some 145), (some (142, false)), .ld1 (tm 144)⟩,
 ⟨(some 146), (some (142, false)), .prim ⟨none, (.binOp .neq 9 (tm 145) (.const (.string ⟨#[115, 110, 97, 112, 46, 48, 48, 48, 48, 48, 48, 48, 49]⟩)) 9), 4, "", #[], none⟩⟩,
 oo 147 (.pick (tm 142) (kB true) (tm 146))] [(30, 0, 1), (42, 1, 2), (44, 1, 2)])
 (.seq (.keep [1, 2, 3, 147])
 (.cond (tm 147) (.seq (.reg [mo 0 (kB false)])
 .ret)
 .skip)))
 (.seq (.keep [1, 2, 3])
 (.seq (.reg [mo 148 (tm 3),
 ca 149 63 [(ku 2), (ku 2)],
 oo 150 (.bslice 16 1 [(.int .u8 0), (.int .u64 0), (.int .u8 0), (.int .u64 0), (.int .u64 0), (.int .u8 0), (.int .u8 0), (.int .u8 0), (.int .u8 0), (.int .u8 0), (.int .u8 0), (.int .u8 0), (.int .u8 0), (.int .u8 0), (.int .u8 0), (.string ⟨#[]⟩)] [(0, 16, (tm 149))]),
 ca 151 58 [(tm 148), (tm 150)],
 mo 13 (tm 151)])
 (.seq (.reg [mo 152 (tm 3),
 ca 153 63 [(ku 4), (ku 2)],
 oo 154 (.bslice 16 1 [(.int .u8 0), (.int .u64 0), (.int .u8 0), (.int .u64 0), (.int .u64 0), (.int .u8 0), (.int .u8 0), (.int .u8 0), (.int .u8 0), (.int .u8 0), (.int .u8 0), (.int .u8 0), (.int .u8 0), (.int .u8 0), (.int .u8 0), (.string ⟨#[]⟩)] [(0, 16, (tm 153))]),
 ca 155 58 [(tm 152), (tm 154)],
 mo 14 (tm 155)])
 (.seq (.reg [mo 156 (tm 3),
 ca 157 65 [(ku 1), (ku 1)],
 ca 158 59 [(tm 156), (tm 157)],
 mo 15 (tm 158)])
 (.seq (.reg [mo 159 (tm 3),
 ca 160 65 [(ku 9), (ku 5)],
 ca 161 59 [(tm 159), (tm 160)],
 mo 16 (tm 161)])
 (.seq (.seq (.reg [mo 162 (tm 13),
 b2 163 .neq 39 (tm 162) (ki 0) 39 4,
 mo 164 (tm 163),
 ⟨(some 165), (some (164, false)), .mv (tm 14)⟩,
 ⟨(some 166), (some (164, false)), .prim ⟨none, (.binOp .neq 39 (tm 165) (ki 1) 39), 4, "", #[], none⟩⟩,
 oo 167 (.pick (tm 164) (kB true) (tm 166)),
 mo 168 (tm 167),
 ⟨(some 169), (some (168, false)), .mv (tm 15)⟩,
 ⟨(some 170), (some (168, false)), .prim ⟨none, (.binOp .neq 39 (tm 169) (ki 10) 39), 4, "", #[], none⟩⟩,
 oo 171 (.pick (tm 168) (kB true) (tm 170)),
 mo 172 (tm 171),
 ⟨(some 173), (some (172, false)), .mv (tm 16)⟩,
 ⟨(some 174), (some (172, false)), .prim ⟨none, (.binOp .neq 39 (tm 173) (ki 0) 39), 4, "", #[], none⟩⟩,
 oo 175 (.pick (tm 172) (kB true) (tm 174)),
 mo 176 (tm 175),
 ⟨(some 177), (some (176, false)), .mv (tm 3)⟩,
 ⟨(some 178), (some (176, false)), .call 60 [(tm 177)]⟩,
 ⟨(some 179), (some (176, false)), .fld 10 1 false (tm 178)⟩,
 ⟨(some 180), (some (176, false)), .len false (tm 179)⟩,
 ⟨(some 181), (some (176, false)), .prim ⟨none, (.binOp .neq 3 (tm 180) (ki 0) 3), 4, "", #[], none⟩⟩,
 oo 182 (.pick (tm 176) (kB true) (tm 181)),
 mo 183 (tm 182),
 ⟨(some 184), (some (183, false)), .mv (tm 3)⟩,
 ⟨(some 185), (some (183, false)), .call 60 [(tm 184)]⟩,
 ⟨(some 186), (some (183, false)), .fld 0 1 false (tm 185)⟩,
 ⟨(some 187), (some (183, false)), .prim ⟨none, (.binOp .neq 22 (tm 186) (ku 1) 22), 4, "", #[], none⟩⟩,
 oo 188 (.pick (tm 183) (kB true) (tm 187))])
 (.seq (.keep [1, 2, 3, 188])
 (.cond (tm 188) (.seq (.reg [mo 0 (kB false)])
 .ret)
 .skip)))
 (.seq (.keep [1, 2, 3])
 (.seq (.reg [mo 17 (.const (.pointer none))])
 (.seq (.reg [ca 190 53 [(.const (.pointer none)), (tm 2)],
 mo 189 (tm 190),
 ex 191 (tm 189) 0,
 ex 192 (tm 189) 1,
 ex 193 (tm 189) 2,
 oo 19 (.alloc [(.int .u64 0), (.int .u8 0), (.int .u64 0), (.int .u64 0), (.int .u8 0), (.string ⟨#[]⟩), (.string ⟨#[]⟩), (.string ⟨#[]⟩), (.string ⟨#[]⟩), (.string ⟨#[]⟩), (.slice none 0 0)]),
 mo 18 (tm 191),
 sr 11 (tm 19) (tm 192),
 mo 20 (tm 193)])
 (.seq (.keep [1, 2, 3, 17, 20])
 (.seq (.reg [mo 195 (tm 1),
 ca 196 53 [(tm 195), (.const (.pointer none))],
 mo 194 (tm 196),
 ex 197 (tm 194) 0,
 ex 198 (tm 194) 1,
 ex 199 (tm 194) 2,
 oo 22 (.alloc [(.int .u64 0), (.int .u8 0), (.int .u64 0), (.int .u64 0), (.int .u8 0), (.string ⟨#[]⟩), (.string ⟨#[]⟩), (.string ⟨#[]⟩), (.string ⟨#[]⟩), (.string ⟨#[]⟩), (.slice none 0 0)]),
 mo 21 (tm 197),
 sr 11 (tm 22) (tm 198),
 mo 23 (tm 199)])
 (.seq (.keep [1, 2, 3, 17, 20, 23])
 (.seq (.reg [mo 200 (tm 1),
 ca 201 22 [(tm 200), (ki 1)]])
 (.seq (.reg [mo 202 (tm 3),
 ca 203 62 [(ku 2), (kb 0)],
 oo 204 (.bslice 16 1 [(.int .u8 0), (.int .u64 0), (.int .u8 0), (.int .u64 0), (.int .u64 0), (.int .u8 0), (.int .u8 0), (.int .u8 0), (.int .u8 0), (.int .u8 0), (.int .u8 0), (.int .u8 0), (.int .u8 0), (.int .u8 0), (.int .u8 0), (.string ⟨#[]⟩)] [(0, 16, (tm 203))]),
 ca 205 58 [(tm 202), (tm 204)],
 mo 24 (tm 205)])
 (.seq (.reg [mo 206 (tm 1),
 ca 207 25 [(tm 206)]])
 (.seq (.reg [mo 208 (tm 3),
 ca 209 62 [(ku 2), (kb 0)],
 oo 210 (.bslice 16 1 [(.int .u8 0), (.int .u64 0), (.int .u8 0), (.int .u64 0), (.int .u64 0), (.int .u8 0), (.int .u8 0), (.int .u8 0), (.int .u8 0), (.int .u8 0), (.int .u8 0), (.int .u8 0), (.int .u8 0), (.int .u8 0), (.int .u8 0), (.string ⟨#[]⟩)] [(0, 16, (tm 209))]),
 ca 211 58 [(tm 208), (tm 210)],
 mo 25 (tm 211)])
 (.seq (.reg [mo 212 (tm 1),
 oo 213 (.build [(.slice none 0 0), (.slice none 0 0)] []),
 ca 214 24 [(tm 212), (tm 213)]])
 (.seq (.reg [mo 216 (tm 1),
 ca 217 53 [(tm 216), (tm 2)],
 mo 215 (tm 217),
 ex 218 (tm 215) 0,
 ex 219 (tm 215) 1,
 ex 220 (tm 215) 2,
 oo 27 (.alloc [(.int .u64 0), (.int .u8 0), (.int .u64 0), (.int .u64 0), (.int .u8 0), (.string ⟨#[]⟩), (.string ⟨#[]⟩), (.string ⟨#[]⟩), (.string ⟨#[]⟩), (.string ⟨#[]⟩), (.slice none 0 0)]),
 mo 26 (tm 218),
 sr 11 (tm 27) (tm 219),
 mo 28 (tm 220)])
 (.seq (.keep [17, 20, 23, 24, 25, 28])
 (.seq (.reg [mo 221 (tm 20),
 b2 222 .eql 39 (tm 221) (ki 2) 39 4,
 mo 223 (tm 222),
 ⟨(some 224), (some (223, true)), .mv (tm 23)⟩,
 ⟨(some 225), (some (223, true)), .prim ⟨none, (.binOp .eql 39 (tm 224) (ki 2) 39), 4, "", #[], none⟩⟩,
 oo 226 (.pick (tm 223) (tm 225) (kB false)),
 mo 227 (tm 226),
 ⟨(some 228), (some (227, true)), .mv (tm 17)⟩,
 ⟨(some 229), (some (227, true)), .call 58 [(tm 228), (.const (.slice none 0 0))]⟩,
 ⟨(some 230), (some (227, true)), .prim ⟨none, (.binOp .eql 39 (tm 229) (ki 2) 39), 4, "", #[], none⟩⟩,
 oo 231 (.pick (tm 227) (tm 230) (kB false)),
 mo 232 (tm 231),
 ⟨(some 233), (some (232, true)), .mv (tm 17)⟩,
 ⟨(some 234), (some (232, true)), .call 65 [(ku 1), (ku 1)]⟩,
 ⟨(some 235), (some (232, true)), .call 59 [(tm 233), (tm 234)]⟩,
 ⟨(some 236), (some (232, true)), .prim ⟨none, (.binOp .eql 39 (tm 235) (ki 2) 39), 4, "", #[], none⟩⟩,
 oo 237 (.pick (tm 232) (tm 236) (kB false)),
 mo 238 (tm 237),
 ⟨(some 239), (some (238, true)), .build [(.pointer none), (.pointer none), (.pointer none), (.int .u64 0), (.int .u8 0), (.int .u64 0), (.int .u64 0), (.int .u8 0), (.string ⟨#[]⟩), (.string ⟨#[]⟩), (.string ⟨#[]⟩), (.string ⟨#[]⟩), (.string ⟨#[]⟩), (.slice none 0 0), (.bool false)] []⟩,
 ⟨(some 240), (some (238, true)), .box (tm 239)⟩,
 ⟨(some 241), (some (238, true)), .call 58 [(tm 240), (.const (.slice none 0 0))]⟩,
 ⟨(some 242), (some (238, true)), .prim ⟨none, (.binOp .eql 39 (tm 241) (ki 2) 39), 4, "", #[], none⟩⟩,
 oo 243 (.pick (tm 238) (tm 242) (kB false)),
 mo 244 (tm 243),
 ⟨(some 245), (some (244, true)), .mv (tm 17)⟩,
 ⟨(some 246), (some (244, true)), .call 60 [(tm 245)]⟩,
 ⟨(some 247), (some (244, true)), .fld 0 1 false (tm 246)⟩,
 ⟨(some 248), (some (244, true)), .prim ⟨none, (.binOp .eql 22 (tm 247) (ku 0) 22), 4, "", #[], none⟩⟩,
 oo 249 (.pick (tm 244) (tm 248) (kB false)),
 mo 250 (tm 249),
 ⟨(some 251), (some (250, true)), .mv (tm 24)⟩,
 ⟨(some 252), (some (250, true)), .prim ⟨none, (.binOp .eql 39 (tm 251) (ki 7) 39), 4, "", #[], none⟩⟩,
 oo 253 (.pick (tm 250) (tm 252) (kB false)),
 mo 254 (tm 253),
 ⟨(some 255), (some (254, true)), .mv (tm 25)⟩,
 ⟨(some 256), (some (254, true)), .prim ⟨none, (.binOp .eql 39 (tm 255) (ki 7) 39), 4, "", #[], none⟩⟩,
 oo 257 (.pick (tm 254) (tm 256) (kB false)),
 mo 258 (tm 257),
 ⟨(some 259), (some (258, true)), .mv (tm 28)⟩,
 ⟨(some 260), (some (258, true)), .prim ⟨none, (.binOp .eql 39 (tm 259) (ki 7) 39), 4, "", #[], none⟩⟩,
 oo 261 (.pick (tm 258) (tm 260) (kB false)),
 mo 262 (tm 261),
 ⟨(some 263), (some (262, true)), .call 45 []⟩,
 oo 264 (.pick (tm 262) (tm 263) (kB false)),
 mo 0 (tm 264)])
 (.seq (.keep [0])
 .ret)))))))))))))))))))))))))))))))))))))))⟩

def lp15x0 : LCode := .loop (.seq (.keep [0, 3])
 (.seq (.seq (.reg [mo 7 (tm 3),
 mo 8 (tm 0),
 le 9 false (tm 8),
 b2 10 .lss 3 (tm 7) (tm 9) 3 4])
 (.cond (tm 10) .skip
 (.exit 0)))
 (.seq (.keep [0, 3])
 (.seq (.block 1 (.seq (.reg [mo 13 (tm 0),
 mo 14 (tm 3),
 is 15 16 (tm 13) (tm 14),
 fa 16 3 (tm 15),
 fa 17 12 (tm 16),
 l1 18 (tm 17),
 ln 19 (tm 18) 9 3,
 b2 20 .gtr 3 (tm 19) (ki 200) 3 4])
 (.seq (.keep [0, 3, 20])
 (.cond (tm 20) (.seq (.reg [mo 2 (kB true)])
 .ret)
 .skip))))
 (.seq (.keep [0, 3])
 (.reg [mo 11 (tm 3),
 b2 12 .add 3 (tm 11) (ki 1) 3 3,
 mo 3 (tm 12)]))))))

def lf15 : LFunc := ⟨1, [.tmp 2],
 (.seq (.reg [mo 2 (kB false)])
 (.seq (.seq (.reg [mo 4 (tm 0),
 le 5 false (tm 4),
 b2 6 .gtr 3 (tm 5) (ki 40) 3 4])
 (.cond (tm 6) (.seq (.reg [mo 2 (kB true)])
 .ret)
 .skip))
 (.seq (.keep [0])
 (.seq (.seq (.reg [mo 3 (ki 0)])
 (.block 0 lp15x0))
 (.seq (.keep [])
 (.seq (.reg [mo 2 (kB false)])
 .ret))))))⟩

def lf16 : LFunc := ⟨1, [.tmp 2],
 (.seq (.reg [oo 1 (.box (tm 0)),
 mo 2 (kB false)])
 (.seq (.reg [fa 3 0 (tm 1),
 l1 4 (tm 3),
 le 5 false (tm 4),
 b2 6 .gtr 3 (tm 5) (ki 60) 3 4,
 mo 7 (tm 6),
 ⟨(some 8), (some (7, false)), .fadr 1 (tm 1)⟩,
 ⟨(some 9), (some (7, false)), .ld1 (tm 8)⟩,
 ⟨(some 10), (some (7, false)), .len false (tm 9)⟩,
 ⟨(some 11), (some (7, false)), .prim ⟨none, (.binOp .gtr 3 (tm 10) (ki 60) 3), 4, "", #[], none⟩⟩,
 oo 12 (.pick (tm 7) (kB true) (tm 11)),
 mo 2 (tm 12)])
 (.seq (.keep [2])
 .ret)))⟩

def lf17 : LFunc := ⟨0, [.tmp 0],
 (.seq (.reg [mo 0 (kB false)])
 (.seq (.reg [ca 10 18 [],
 mo 1 (tm 10)])
 (.seq (.reg [ca 11 19 [],
 oo 2 (.alloc [(.int .u32 0), (.int .u32 0), (.int .u32 0), (.int .u32 0), (.int .u32 0), (.int .u32 0), (.int .u32 0), (.int .u32 0), (.int .u32 0), (.int .u32 0), (.int .u32 0), (.int .u32 0), (.int .u32 0), (.int .u32 0), (.int .u32 0), (.int .u32 0), (.int .u32 0), (.int .u32 0), (.int .u32 0), (.int .u32 0), (.int .u32 0), (.int .u32 0), (.int .u32 0), (.int .u32 0), (.int .u32 0), (.int .u32 0), (.int .u32 0), (.int .u32 0), (.int .u32 0), (.int .u32 0), (.int .u32 0), (.int .u32 0), (.int .u32 0), (.int .u32 0), (.int .u32 0), (.int .u32 0), (.int .u32 0), (.int .u32 0), (.int .u32 0), (.int .u32 0), (.int .u32 0), (.int .u32 0), (.int .u32 0), (.int .u32 0), (.int .u32 0), (.int .u32 0), (.int .u32 0), (.int .u32 0), (.int .u32 0), (.int .u32 0), (.int .u32 0), (.int .u32 0), (.int .u32 0), (.int .u32 0), (.int .u32 0), (.int .u32 0), (.int .u32 0), (.int .u32 0), (.int .u32 0), (.int .u32 0), (.int .u32 0), (.int .u32 0), (.int .u32 0), (.int .u32 0), (.int .u32 0), (.int .u32 0), (.int .u32 0), (.int .u32 0), (.int .u32 0), (.int .u32 0), (.int .u32 0), (.int .u32 0), (.int .u32 0), (.int .u32 0), (.int .u32 0), (.int .u32 0), (.int .u32 0), (.int .u32 0), (.int .u32 0), (.int .u32 0), (.int .u32 0), (.int .u32 0), (.int .u32 0), (.int .u32 0), (.int .u32 0), (.int .u32 0), (.int .u32 0), (.int .u32 0), (.int .u32 0), (.int .u32 0), (.int .u32 0), (.int .u32 0), (.int .u32 0), (.int .u32 0), (.int .u32 0), (.int .u32 0), (.int .u32 0), (.int .u32 0), (.int .u32 0), (.int .u32 0), (.int .u32 0), (.int .u32 0), (.int .u32 0), (.int .u32 0), (.int .u32 0), (.int .u32 0), (.int .u32 0), (.int .u32 0), (.int .u32 0), (.int .u32 0), (.int .u32 0), (.int .u32 0), (.int .u32 0), (.int .u32 0), (.int .u32 0), (.int .u32 0), (.int .u32 0), (.int .u32 0), (.int .u32 0), (.int .u32 0), (.int .u32 0), (.int .u32 0), (.int .u32 0), (.int .u32 0), (.int .u32 0), (.int .u32 0), (.int .u32 0), (.int .u32 0), (.int .u32 0), (.int .u32 0), (.int .u32 0), (.int .u32 0), (.int .u32 0), (.int .u32 0), (.int .u32 0), (.int .u32 0), (.int .u32 0), (.int .u32 0), (.int .u32 0), (.int .u32 0), (.int .u32 0), (.int .u32 0), (.int .u32 0), (.int .u32 0), (.int .u32 0), (.int .u32 0), (.int .u32 0), (.int .u32 0), (.int .u32 0), (.int .u32 0), (.int .u32 0), (.int .u32 0), (.int .u32 0), (.int .u32 0), (.int .u32 0), (.int .u32 0), (.int .u32 0), (.int .u32 0), (.int .u32 0), (.int .u32 0), (.int .u32 0), (.int .u32 0), (.int .u32 0), (.int .u32 0), (.int .u32 0), (.int .u32 0), (.int .u32 0), (.int .u32 0), (.int .u32 0), (.int .u32 0), (.int .u32 0), (.int .u32 0), (.int .u32 0), (.int .u32 0), (.int .u32 0), (.int .u32 0), (.int .u32 0), (.int .u32 0), (.int .u32 0), (.int .u32 0), (.int .u32 0), (.int .u32 0), (.int .u32 0), (.int .u32 0), (.int .u32 0), (.int .u32 0), (.int .u32 0), (.int .u32 0), (.int .u32 0), (.int .u32 0), (.int .u32 0), (.int .u32 0), (.int .u32 0), (.int .u32 0), (.int .u32 0), (.int .u32 0), (.int .u32 0), (.int .u32 0), (.int .u32 0), (.int .u32 0), (.int .u32 0), (.int .u32 0), (.int .u32 0), (.int .u32 0), (.int .u32 0), (.int .u32 0), (.int .u32 0), (.int .u32 0), (.int .u32 0), (.int .u32 0), (.int .u32 0), (.int .u32 0), (.int .u32 0), (.int .u32 0), (.int .u32 0), (.int .u32 0), (.int .u32 0), (.int .u32 0), (.int .u32 0), (.int .u32 0), (.int .u32 0), (.int .u32 0), (.int .u32 0), (.int .u32 0), (.int .u32 0), (.int .u32 0), (.int .u32 0), (.int .u32 0), (.int .u32 0), (.int .u32 0), (.int .u32 0), (.int .u32 0), (.int .u32 0), (.int .u32 0), (.int .u32 0), (.int .u32 0), (.int .u32 0), (.int .u32 0), (.int .u32 0), (.int .u32 0), (.int .u32 0), (.int .u32 0), (.int .u32 0), (.int .u32 0), (.int .u32 0), (.int .u32 0), (.int .u32 0), (.int .u32 0), (.int .u32 0), (.int .u32 0), (.int .u32 0), (.int .u32 0), (.int .u32 0), (.int .u32 0), (.int .u32 0), (.int .u32 0)]),
 sr 256 (tm 2) (tm 11)])
 (.seq (.reg [mo 13 (tm 1),
 ca 14 33 [(ku 5), (kb 2)],
 oo 15 (.bslice 16 1 [(.int .u8 0), (.int .u64 0), (.int .u8 0), (.int .u64 0), (.int .u64 0), (.int .u8 0), (.int .u8 0), (.int .u8 0), (.int .u8 0), (.int .u8 0), (.int .u8 0), (.int .u8 0), (.int .u8 0), (.int .u8 0), (.int .u8 0), (.string ⟨#[]⟩)] [(0, 16, (tm 14))]),
 ca 16 21 [(tm 13), (tm 2), (ku 1), (ku 4), (tm 15)],
 mo 12 (tm 16),
 ex 17 (tm 12) 0,
 ex 18 (tm 12) 1,
 mo 3 (tm 17),
 mo 4 (tm 18)])
 (.seq (.keep [1, 2, 3, 4])
 (.seq (.seq (.reg [mo 19 (tm 4),
 b2 20 .neq 39 (tm 19) (ki 0) 39 4,
 mo 21 (tm 20),
 ⟨(some 22), (some (21, false)), .mv (tm 3)⟩,
 ⟨(some 23), (some (21, false)), .cmpref 0 false (tm 22) (.const (.pointer none))⟩,
 oo 24 (.pick (tm 21) (kB true) (tm 23))])
 (.cond (tm 24) (.seq (.reg [mo 0 (kB false)])
 .ret)
 .skip))
 (.seq (.keep [1, 2, 3])
 (.seq (.reg [mo 25 (tm 1),
 ca 26 22 [(tm 25), (ki 2)]])
 (.seq (.reg [mo 27 (tm 3),
 ca 28 33 [(ku 6), (kb 0)],
 oo 29 (.bslice 16 1 [(.int .u8 0), (.int .u64 0), (.int .u8 0), (.int .u64 0), (.int .u64 0), (.int .u8 0), (.int .u8 0), (.int .u8 0), (.int .u8 0), (.int .u8 0), (.int .u8 0), (.int .u8 0), (.int .u8 0), (.int .u8 0), (.int .u8 0), (.string ⟨#[]⟩)] [(0, 16, (tm 28))]),
 ca 30 23 [(tm 27), (tm 29)],
 mo 5 (tm 30)])
 (.seq (.reg [mo 31 (tm 1),
 oo 32 (.build [(.slice none 0 0), (.slice none 0 0)] []),
 ca 33 24 [(tm 31), (tm 32)]])
 (.seq (.reg [mo 34 (tm 1),
 ca 35 25 [(tm 34)]])
 (.seq (.reg [mo 37 (tm 1),
 ca 38 26 [(tm 37), (tm 2), (ku 1)],
 mo 36 (tm 38),
 ex 39 (tm 36) 0,
 ex 40 (tm 36) 1,
 ex 41 (tm 36) 2,
 ex 42 (tm 36) 3,
 mo 6 (tm 39),
 mo 7 (tm 40),
 mo 8 (tm 41),
 mo 9 (tm 42)])
 (.seq (.keep [3, 5, 6, 7, 8, 9])
 (.seq (.dreg [mo 43 (tm 5),
 b2 44 .eql 39 (tm 43) (ki 7) 39 4,
 mo 45 (tm 44),
 ⟨(some 46), (some (45, true)), .mv (tm 9)⟩,
 ⟨(some 47), (some (45, true)), .prim ⟨none, (.binOp .eql 39 (tm 46) (ki 0) 39), 4, "", #[], none⟩⟩,
 oo 48 (.pick (tm 45) (tm 47) (kB false)),
 mo 49 (tm 48),
 ⟨(some 50), (some (49, true)), .mv (tm 6)⟩,
 ⟨(some 51), (some (49, true)), .prim ⟨none, (.binOp .eql 22 (tm 50) (ku 4) 22), 4, "", #[], none⟩⟩,
 oo 52 (.pick (tm 49) (tm 51) (kB false)),
 mo 53 (tm 52),
 ⟨(some 54), (some (53, true)), .mv (tm 8)⟩,
 oo 55 (.pick (tm 53) (tm 54) (kB false)),
 mo 56 (tm 55),
 ⟨(some 57), (some (56, true)), .mv (tm 7)⟩,
 ⟨(some 58), (some (56, true)), .len false (tm 57)⟩,
 ⟨(some 59), (some (56, true)), .prim ⟨none, (.binOp .eql 3 (tm 58) (ki 1) 3), 4, "", #[], none⟩⟩,
 oo 60 (.pick (tm 56) (tm 59) (kB false)),
 mo 61 (tm 60),
 ⟨(some 62), (some (61, true)), .mv (tm 7)⟩,
 ⟨(some 63), (some (61, true)), .iadrs 16 (tm 62) (ki 0)⟩,
 ⟨(some 64), (some (61, true)), .ldn 16 (tm 63)⟩,
 ⟨(some 65), (some (61, true)), .call 33 [(ku 5), (kb 2)]⟩,
 ⟨(some 66), (some (61, true)), .prim ⟨none, (.binOp .eql 56 (tm 64) (tm 65) 56), 4, "", #[], none⟩⟩,
 oo 67 (.pick (tm 61) (tm 66) (kB false)),
 mo 68 (tm 67),
 ⟨(some 69), (some (68, true)), .mv (tm 3)⟩,
 ⟨(some 70), (some (68, true)), .call 37 [(tm 69)]⟩,
 ⟨(some 71), (some (68, true)), .prim ⟨none, (.binOp .eql 22 (tm 70) (ku 1) 22), 4, "", #[], none⟩⟩,
 oo 72 (.pick (tm 68) (tm 71) (kB false)),
 mo 73 (tm 72),
 ⟨(some 74), (some (73, true)), .mv (tm 3)⟩,
 ⟨(some 75), (some (73, true)), .call 35 [(tm 74)]⟩,
 ⟨(some 76), (some (73, true)), .prim ⟨none, (.binOp .eql 3 (tm 75) (ki 0) 3), 4, "", #[], none⟩⟩,
 oo 77 (.pick (tm 73) (tm 76) (kB false)),
 mo 0 (tm 77)] [(21, 0, 1)])
 (.seq (.keep [0])
 .ret)))))))))))))))⟩

def lf18 : LFunc := ⟨0, [.tmp 0],
 (.seq (.reg [mo 0 (.const (.pointer none))])
 (.seq (.reg [oo 1 (.mkmap none),
 oo 2 (.build [(.map none), (.bool false), (.int .i64 0)] [(0, 1, (tm 1))]),
 oo 3 (.box (tm 2)),
 mo 0 (tm 3)])
 .ret))⟩

def lp19x0 : LCode := .loop (.seq (.keep [0, 1, 2, 3, 4, 9])
 (.seq (.reg [b2 10 .lss 3 (tm 9) (ki 8) 3 4])
 (.seq (.cond (tm 10) .skip
 (.exit 2))
 (.seq (.keep [0, 1, 2, 3, 4, 9])
 (.seq (.block 3 (.reg [mo 11 (tm 3),
 b2 12 .shr 33 (tm 11) (ku 1) 135 33,
 mo 13 (tm 3),
 b2 14 .and 33 (tm 13) (.const (.int .u32 1)) 33 33,
 b2 15 .mul 33 (.const (.int .u32 2197175160)) (tm 14) 33 33,
 b2 16 .xor 33 (tm 12) (tm 15) 33 33,
 mo 3 (tm 16)]))
 (.seq (.keep [0, 1, 2, 3, 4, 9])
 (.reg [b2 17 .add 3 (tm 9) (ki 1) 3 3,
 mo 9 (tm 17)])))))))

def lp19x1 : LCode := .loop (.seq (.keep [0, 1, 4])
 (.seq (.reg [b2 5 .lss 3 (tm 4) (ki 256) 3 0])
 (.seq (.cond (tm 5) .skip
 (.exit 0))
 (.seq (.keep [0, 1, 4])
 (.seq (.block 1 (.seq (.reg [mo 6 (tm 4),
 mo 2 (tm 6)])
 (.seq (.reg [mo 7 (tm 2),
 cv 8 3 33 (tm 7) 33,
 mo 3 (tm 8)])
 (.seq (.seq (.reg [mo 9 (ki 0)])
 (.block 2 lp19x0))
 (.seq (.keep [0, 1, 2, 3, 4])
 (.reg [mo 18 (tm 2),
 mo 19 (tm 3),
 oo 20 (.iadra 256 1 (tm 1) (tm 18)),
 sr 1 (tm 20) (tm 19)]))))))
 (.seq (.keep [0, 1, 4])
 (.reg [b2 21 .add 3 (tm 4) (ki 1) 3 3,
 mo 4 (tm 21)])))))))

def lf19 : LFunc := ⟨0, [.ldn 0 256],
 (.seq (.reg [oo 0 (.alloc [(.int .u32 0), (.int .u32 0), (.int .u32 0), (.int .u32 0), (.int .u32 0), (.int .u32 0), (.int .u32 0), (.int .u32 0), (.int .u32 0), (.int .u32 0), (.int .u32 0), (.int .u32 0), (.int .u32 0), (.int .u32 0), (.int .u32 0), (.int .u32 0), (.int .u32 0), (.int .u32 0), (.int .u32 0), (.int .u32 0), (.int .u32 0), (.int .u32 0), (.int .u32 0), (.int .u32 0), (.int .u32 0), (.int .u32 0), (.int .u32 0), (.int .u32 0), (.int .u32 0), (.int .u32 0), (.int .u32 0), (.int .u32 0), (.int .u32 0), (.int .u32 0), (.int .u32 0), (.int .u32 0), (.int .u32 0), (.int .u32 0), (.int .u32 0), (.int .u32 0), (.int .u32 0), (.int .u32 0), (.int .u32 0), (.int .u32 0), (.int .u32 0), (.int .u32 0), (.int .u32 0), (.int .u32 0), (.int .u32 0), (.int .u32 0), (.int .u32 0), (.int .u32 0), (.int .u32 0), (.int .u32 0), (.int .u32 0), (.int .u32 0), (.int .u32 0), (.int .u32 0), (.int .u32 0), (.int .u32 0), (.int .u32 0), (.int .u32 0), (.int .u32 0), (.int .u32 0), (.int .u32 0), (.int .u32 0), (.int .u32 0), (.int .u32 0), (.int .u32 0), (.int .u32 0), (.int .u32 0), (.int .u32 0), (.int .u32 0), (.int .u32 0), (.int .u32 0), (.int .u32 0), (.int .u32 0), (.int .u32 0), (.int .u32 0), (.int .u32 0), (.int .u32 0), (.int .u32 0), (.int .u32 0), (.int .u32 0), (.int .u32 0), (.int .u32 0), (.int .u32 0), (.int .u32 0), (.int .u32 0), (.int .u32 0), (.int .u32 0), (.int .u32 0), (.int .u32 0), (.int .u32 0), (.int .u32 0), (.int .u32 0), (.int .u32 0), (.int .u32 0), (.int .u32 0), (.int .u32 0), (.int .u32 0), (.int .u32 0), (.int .u32 0), (.int .u32 0), (.int .u32 0), (.int .u32 0), (.int .u32 0), (.int .u32 0), (.int .u32 0), (.int .u32 0), (.int .u32 0), (.int .u32 0), (.int .u32 0), (.int .u32 0), (.int .u32 0), (.int .u32 0), (.int .u32 0), (.int .u32 0), (.int .u32 0), (.int .u32 0), (.int .u32 0), (.int .u32 0), (.int .u32 0), (.int .u32 0), (.int .u32 0), (.int .u32 0), (.int .u32 0), (.int .u32 0), (.int .u32 0), (.int .u32 0), (.int .u32 0), (.int .u32 0), (.int .u32 0), (.int .u32 0), (.int .u32 0), (.int .u32 0), (.int .u32 0), (.int .u32 0), (.int .u32 0), (.int .u32 0), (.int .u32 0), (.int .u32 0), (.int .u32 0), (.int .u32 0), (.int .u32 0), (.int .u32 0), (.int .u32 0), (.int .u32 0), (.int .u32 0), (.int .u32 0), (.int .u32 0), (.int .u32 0), (.int .u32 0), (.int .u32 0), (.int .u32 0), (.int .u32 0), (.int .u32 0), (.int .u32 0), (.int .u32 0), (.int .u32 0), (.int .u32 0), (.int .u32 0), (.int .u32 0), (.int .u32 0), (.int .u32 0), (.int .u32 0), (.int .u32 0), (.int .u32 0), (.int .u32 0), (.int .u32 0), (.int .u32 0), (.int .u32 0), (.int .u32 0), (.int .u32 0), (.int .u32 0), (.int .u32 0), (.int .u32 0), (.int .u32 0), (.int .u32 0), (.int .u32 0), (.int .u32 0), (.int .u32 0), (.int .u32 0), (.int .u32 0), (.int .u32 0), (.int .u32 0), (.int .u32 0), (.int .u32 0), (.int .u32 0), (.int .u32 0), (.int .u32 0), (.int .u32 0), (.int .u32 0), (.int .u32 0), (.int .u32 0), (.int .u32 0), (.int .u32 0), (.int .u32 0), (.int .u32 0), (.int .u32 0), (.int .u32 0), (.int .u32 0), (.int .u32 0), (.int .u32 0), (.int .u32 0), (.int .u32 0), (.int .u32 0), (.int .u32 0), (.int .u32 0), (.int .u32 0), (.int .u32 0), (.int .u32 0), (.int .u32 0), (.int .u32 0), (.int .u32 0), (.int .u32 0), (.int .u32 0), (.int .u32 0), (.int .u32 0), (.int .u32 0), (.int .u32 0), (.int .u32 0), (.int .u32 0), (.int .u32 0), (.int .u32 0), (.int .u32 0), (.int .u32 0), (.int .u32 0), (.int .u32 0), (.int .u32 0), (.int .u32 0), (.int .u32 0), (.int .u32 0), (.int .u32 0), (.int .u32 0), (.int .u32 0), (.int .u32 0), (.int .u32 0), (.int .u32 0), (.int .u32 0), (.int .u32 0), (.int .u32 0), (.int .u32 0), (.int .u32 0), (.int .u32 0), (.int .u32 0), (.int .u32 0), (.int .u32 0), (.int .u32 0), (.int .u32 0), (.int .u32 0), (.int .u32 0), (.int .u32 0), (.int .u32 0), (.int .u32 0), (.int .u32 0)])])
 (.seq (.reg [oo 1 (.alloc [(.int .u32 0), (.int .u32 0), (.int .u32 0), (.int .u32 0), (.int .u32 0), (.int .u32 0), (.int .u32 0), (.int .u32 0), (.int .u32 0), (.int .u32 0), (.int .u32 0), (.int .u32 0), (.int .u32 0), (.int .u32 0), (.int .u32 0), (.int .u32 0), (.int .u32 0), (.int .u32 0), (.int .u32 0), (.int .u32 0), (.int .u32 0), (.int .u32 0), (.int .u32 0), (.int .u32 0), (.int .u32 0), (.int .u32 0), (.int .u32 0), (.int .u32 0), (.int .u32 0), (.int .u32 0), (.int .u32 0), (.int .u32 0), (.int .u32 0), (.int .u32 0), (.int .u32 0), (.int .u32 0), (.int .u32 0), (.int .u32 0), (.int .u32 0), (.int .u32 0), (.int .u32 0), (.int .u32 0), (.int .u32 0), (.int .u32 0), (.int .u32 0), (.int .u32 0), (.int .u32 0), (.int .u32 0), (.int .u32 0), (.int .u32 0), (.int .u32 0), (.int .u32 0), (.int .u32 0), (.int .u32 0), (.int .u32 0), (.int .u32 0), (.int .u32 0), (.int .u32 0), (.int .u32 0), (.int .u32 0), (.int .u32 0), (.int .u32 0), (.int .u32 0), (.int .u32 0), (.int .u32 0), (.int .u32 0), (.int .u32 0), (.int .u32 0), (.int .u32 0), (.int .u32 0), (.int .u32 0), (.int .u32 0), (.int .u32 0), (.int .u32 0), (.int .u32 0), (.int .u32 0), (.int .u32 0), (.int .u32 0), (.int .u32 0), (.int .u32 0), (.int .u32 0), (.int .u32 0), (.int .u32 0), (.int .u32 0), (.int .u32 0), (.int .u32 0), (.int .u32 0), (.int .u32 0), (.int .u32 0), (.int .u32 0), (.int .u32 0), (.int .u32 0), (.int .u32 0), (.int .u32 0), (.int .u32 0), (.int .u32 0), (.int .u32 0), (.int .u32 0), (.int .u32 0), (.int .u32 0), (.int .u32 0), (.int .u32 0), (.int .u32 0), (.int .u32 0), (.int .u32 0), (.int .u32 0), (.int .u32 0), (.int .u32 0), (.int .u32 0), (.int .u32 0), (.int .u32 0), (.int .u32 0), (.int .u32 0), (.int .u32 0), (.int .u32 0), (.int .u32 0), (.int .u32 0), (.int .u32 0), (.int .u32 0), (.int .u32 0), (.int .u32 0), (.int .u32 0), (.int .u32 0), (.int .u32 0), (.int .u32 0), (.int .u32 0), (.int .u32 0), (.int .u32 0), (.int .u32 0), (.int .u32 0), (.int .u32 0), (.int .u32 0), (.int .u32 0), (.int .u32 0), (.int .u32 0), (.int .u32 0), (.int .u32 0), (.int .u32 0), (.int .u32 0), (.int .u32 0), (.int .u32 0), (.int .u32 0), (.int .u32 0), (.int .u32 0), (.int .u32 0), (.int .u32 0), (.int .u32 0), (.int .u32 0), (.int .u32 0), (.int .u32 0), (.int .u32 0), (.int .u32 0), (.int .u32 0), (.int .u32 0), (.int .u32 0), (.int .u32 0), (.int .u32 0), (.int .u32 0), (.int .u32 0), (.int .u32 0), (.int .u32 0), (.int .u32 0), (.int .u32 0), (.int .u32 0), (.int .u32 0), (.int .u32 0), (.int .u32 0), (.int .u32 0), (.int .u32 0), (.int .u32 0), (.int .u32 0), (.int .u32 0), (.int .u32 0), (.int .u32 0), (.int .u32 0), (.int .u32 0), (.int .u32 0), (.int .u32 0), (.int .u32 0), (.int .u32 0), (.int .u32 0), (.int .u32 0), (.int .u32 0), (.int .u32 0), (.int .u32 0), (.int .u32 0), (.int .u32 0), (.int .u32 0), (.int .u32 0), (.int .u32 0), (.int .u32 0), (.int .u32 0), (.int .u32 0), (.int .u32 0), (.int .u32 0), (.int .u32 0), (.int .u32 0), (.int .u32 0), (.int .u32 0), (.int .u32 0), (.int .u32 0), (.int .u32 0), (.int .u32 0), (.int .u32 0), (.int .u32 0), (.int .u32 0), (.int .u32 0), (.int .u32 0), (.int .u32 0), (.int .u32 0), (.int .u32 0), (.int .u32 0), (.int .u32 0), (.int .u32 0), (.int .u32 0), (.int .u32 0), (.int .u32 0), (.int .u32 0), (.int .u32 0), (.int .u32 0), (.int .u32 0), (.int .u32 0), (.int .u32 0), (.int .u32 0), (.int .u32 0), (.int .u32 0), (.int .u32 0), (.int .u32 0), (.int .u32 0), (.int .u32 0), (.int .u32 0), (.int .u32 0), (.int .u32 0), (.int .u32 0), (.int .u32 0), (.int .u32 0), (.int .u32 0), (.int .u32 0), (.int .u32 0), (.int .u32 0), (.int .u32 0), (.int .u32 0), (.int .u32 0), (.int .u32 0), (.int .u32 0), (.int .u32 0), (.int .u32 0), (.int .u32 0), (.int .u32 0), (.int .u32 0), (.int .u32 0), (.int .u32 0), (.int .u32 0), (.int .u32 0), (.int .u32 0), (.int .u32 0)])])
 (.seq (.seq (.reg [mo 4 (ki 0)])
 (.block 0 lp19x1))
 (.seq (.keep [0, 1])
 (.seq (.reg [l2 22 256 (tm 1),
 sr 256 (tm 0) (tm 22)])
 .ret)))))⟩

def lp20x0 : LCode := .loop (.seq (.keep [0, 3, 4])
 (.seq (.seq (.reg [mo 5 (tm 4),
 mo 6 (tm 0),
 le 7 false (tm 6),
 b2 8 .lss 3 (tm 5) (tm 7) 3 4])
 (.cond (tm 8) .skip
 (.exit 0)))
 (.seq (.keep [0, 3, 4])
 (.seq (.block 1 (.seq (.reg [mo 11 (tm 0),
 mo 12 (tm 4),
 is 13 16 (tm 11) (tm 12),
 l2 14 16 (tm 13),
 ca 15 66 [(tm 14)]])
 (.cond (tm 15) (.reg [mo 16 (tm 3),
 mo 17 (tm 0),
 mo 18 (tm 4),
 is 19 16 (tm 17) (tm 18),
 l2 20 16 (tm 19),
 oo 21 (.bslice 16 1 [(.int .u8 0), (.int .u64 0), (.int .u8 0), (.int .u64 0), (.int .u64 0), (.int .u8 0), (.int .u8 0), (.int .u8 0), (.int .u8 0), (.int .u8 0), (.int .u8 0), (.int .u8 0), (.int .u8 0), (.int .u8 0), (.int .u8 0), (.string ⟨#[]⟩)] [(0, 16, (tm 20))]),
 ap 22 16 72 (tm 16) (tm 21),
 mo 3 (tm 22)])
 .skip)))
 (.seq (.keep [0, 3, 4])
 (.reg [mo 9 (tm 4),
 b2 10 .add 3 (tm 9) (ki 1) 3 3,
 mo 4 (tm 10)]))))))

def lf20 : LFunc := ⟨1, [.tmp 2],
 (.seq (.reg [mo 2 (.const (.slice none 0 0))])
 (.seq (.reg [mo 3 (.const (.slice none 0 0))])
 (.seq (.seq (.reg [mo 4 (ki 0)])
 (.block 0 lp20x0))
 (.seq (.keep [3])
 (.seq (.reg [mo 23 (tm 3),
 mo 2 (tm 23)])
 .ret)))))⟩

def lf21 : LFunc := ⟨5, [.tmp 10, .tmp 11],
 (.seq (.reg [mo 10 (.const (.pointer none)),
 mo 11 (ki 0)])
 (.seq (.seq (.reg [mo 17 (tm 0),
 mo 18 (tm 1),
 ca 19 67 [(tm 17), (tm 18)],
 mo 12 (tm 19)])
 (.seq (.reg [mo 20 (tm 12),
 b2 21 .neq 39 (tm 20) (ki 0) 39 4])
 (.cond (tm 21) (.seq (.reg [mo 22 (tm 12),
 mo 10 (.const (.pointer none)),
 mo 11 (tm 22)])
 .ret)
 .skip)))
 (.seq (.keep [0, 1, 2, 3, 4])
 (.seq (.seq (.reg [mo 23 (tm 0),
 ca 24 64 [(tm 23)],
 mo 25 (tm 2),
 ca 26 31 [(tm 25)],
 ca 27 68 [(tm 24), (tm 26)]])
 (.cond (tm 27) (.seq (.reg [mo 10 (.const (.pointer none)),
 mo 11 (ki 5)])
 .ret)
 .skip))
 (.seq (.keep [0, 1, 2, 3, 4])
 (.seq (.reg [mo 29 (tm 4),
 ca 30 69 [(tm 29)],
 mo 28 (tm 30),
 ex 31 (tm 28) 0,
 ex 32 (tm 28) 1,
 mo 13 (tm 31),
 mo 14 (tm 32)])
 (.seq (.seq (.reg [mo 33 (tm 14),
 u1 34 .not 4 (tm 33) 4])
 (.cond (tm 34) (.seq (.reg [mo 10 (.const (.pointer none)),
 mo 11 (ki 1)])
 .ret)
 .skip))
 (.seq (.keep [0, 1, 2, 3, 4, 13])
 (.seq (.reg [mo 35 (tm 0),
 mo 36 (tm 1),
 mo 37 (tm 2),
 oo 38 (.build [(.pointer none), (.pointer none), (.int .u64 0), (.int .i64 0)] [(0, 1, (tm 35)), (1, 1, (tm 36)), (2, 1, (tm 37))]),
 oo 39 (.box (tm 38)),
 mo 15 (tm 39)])
 (.seq (.seq (.reg [mo 40 (tm 15),
 mo 41 (tm 4),
 le 42 false (tm 41),
 mo 43 (tm 3),
 ca 44 71 [(tm 42), (tm 43)],
 oo 45 (.bslice 1 1 [(.string ⟨#[]⟩)] [(0, 1, (tm 44))]),
 mo 46 (tm 13),
 ap 47 1 16 (tm 45) (tm 46),
 ca 48 70 [(tm 40), (tm 47)],
 mo 16 (tm 48)])
 (.seq (.keep [15, 16])
 (.seq (.reg [mo 49 (tm 16),
 b2 50 .neq 39 (tm 49) (ki 0) 39 4])
 (.cond (tm 50) (.seq (.reg [mo 51 (tm 16),
 mo 10 (.const (.pointer none)),
 mo 11 (tm 51)])
 .ret)
 .skip))))
 (.seq (.keep [15])
 (.seq (.reg [mo 52 (tm 15),
 mo 10 (tm 52),
 mo 11 (ki 0)])
 .ret))))))))))))⟩

def lf22 : LFunc := ⟨2, [],
 (.seq (.reg [mo 4 (tm 0),
 ca 5 72 [(tm 4)],
 u1 6 .not 4 (tm 5) 4])
 (.cond (tm 6) (.reg [mo 7 (tm 0),
 mo 8 (tm 1),
 oo 9 (.prim ⟨none, (.call ⟨.builtin .max, #[(tm 8), (ki 0)], #[3, 3]⟩), 3, "", #[], none⟩),
 nc 10 (tm 7),
 fa 11 2 (tm 10),
 sr 1 (tm 11) (tm 9)])
 .skip))⟩

def lf23 : LFunc := ⟨2, [.tmp 4],
 (.seq (.reg [mo 4 (ki 0)])
 (.seq (.seq (.reg [mo 9 (tm 0),
 oo 10 (.cmpref 0 false (tm 9) (.const (.pointer none))),
 mo 11 (tm 10),
 ⟨(some 12), (some (11, false)), .mv (tm 0)⟩,
 ⟨(some 13), (some (11, false)), .nilck (tm 12)⟩,
 ⟨(some 14), (some (11, false)), .fadr 0 (tm 13)⟩,
 ⟨(some 15), (some (11, false)), .ld1 (tm 14)⟩,
 ⟨(some 16), (some (11, false)), .cmpref 0 false (tm 15) (.const (.pointer none))⟩,
 oo 17 (.pick (tm 11) (kB true) (tm 16))])
 (.seq (.keep [0, 1, 17])
 (.cond (tm 17) (.seq (.reg [mo 4 (ki 2)])
 .ret)
 .skip)))
 (.seq (.keep [0, 1])
 (.seq (.seq (.dreg [mo 18 (tm 0),
 nc 19 (tm 18),
 fa 20 0 (tm 19),
 l1 21 (tm 20),
 mo 22 (tm 0),
 nc 23 (tm 22),
 fa 24 1 (tm 23),
 l1 25 (tm 24),
 ca 26 67 [(tm 21), (tm 25)],
 mo 5 (tm 26)] [])
 (.seq (.keep [0, 1, 5])
 (.seq (.reg [mo 27 (tm 5),
 b2 28 .neq 39 (tm 27) (ki 0) 39 4])
 (.cond (tm 28) (.seq (.reg [mo 29 (tm 5),
 mo 4 (tm 29)])
 .ret)
 .skip))))
 (.seq (.keep [0, 1])
 (.seq (.reg [mo 31 (tm 1),
 ca 32 69 [(tm 31)],
 mo 30 (tm 32),
 ex 33 (tm 30) 0,
 ex 34 (tm 30) 1,
 mo 6 (tm 33),
 mo 7 (tm 34)])
 (.seq (.block 0 (.seq (.reg [mo 36 (tm 7),
 u1 37 .not 4 (tm 36) 4,
 mo 35 (tm 37)])
 (.cond (tm 35) (.seq (.reg [mo 4 (ki 1)])
 .ret)
 (.seq (.reg [mo 39 (tm 6),
 le 40 false (tm 39),
 b2 41 .eql 3 (tm 40) (ki 0) 3 4,
 mo 38 (tm 41)])
 (.cond (tm 38) (.seq (.reg [mo 4 (ki 0)])
 .ret)
 .skip)))))
 (.seq (.keep [0, 6])
 (.seq (.seq (.reg [mo 42 (tm 0),
 mo 43 (tm 6),
 ca 44 70 [(tm 42), (tm 43)],
 mo 8 (tm 44)])
 (.seq (.reg [mo 45 (tm 8),
 b2 46 .neq 39 (tm 45) (ki 0) 39 4])
 (.cond (tm 46) (.seq (.reg [mo 47 (tm 8),
 mo 4 (tm 47)])
 .ret)
 .skip)))
 (.seq (.keep [0, 6])
 (.seq (.reg [mo 48 (tm 0),
 nc 49 (tm 48),
 fa 50 3 (tm 49),
 l1 51 (tm 50),
 mo 52 (tm 6),
 le 53 false (tm 52),
 b2 54 .add 3 (tm 51) (tm 53) 3 3,
 nc 55 (tm 48),
 fa 56 3 (tm 55),
 sr 1 (tm 56) (tm 54)])
 (.seq (.keep [])
 (.seq (.reg [mo 4 (ki 0)])
 .ret)))))))))))))⟩

def lp24x0 : LCode := .loop (.seq (.keep [0, 3, 4, 14, 15, 16])
 (.seq (.reg [b2 17 .lss 3 (tm 16) (tm 15) 3 0])
 (.seq (.cond (tm 17) .skip
 (.exit 0))
 (.seq (.keep [0, 3, 4, 14, 15, 16])
 (.seq (.block 1 (.seq (.reg [is 18 1 (tm 14) (tm 16),
 l1 19 (tm 18),
 mo 6 (tm 19)])
 (.seq (.reg [mo 20 (tm 0),
 nc 21 (tm 20),
 fa 22 0 (tm 21),
 l1 23 (tm 22),
 mo 24 (tm 6),
 oo 25 (.look 9 (.agg #[(.slice none 0 0), (.int .i64 0), (.bool false), (.string ⟨#[]⟩)]) (tm 23) (tm 24) false),
 oo 7 (.alloc [(.slice none 0 0), (.int .i64 0), (.bool false), (.string ⟨#[]⟩)]),
 sr 4 (tm 7) (tm 25)])
 (.seq (.keep [0, 3, 4, 6, 7, 14, 15, 16])
 (.seq (.seq (.reg [fa 26 1 (tm 7),
 l1 27 (tm 26),
 fa 28 0 (tm 7),
 l1 29 (tm 28),
 le 30 false (tm 29),
 b2 31 .lss 3 (tm 27) (tm 30) 3 4])
 (.cond (tm 31) (.seq (.reg [l2 32 4 (tm 7),
 l2 33 2 (tm 3),
 mo 34 (tm 4),
 ca 35 73 [(tm 32), (tm 33), (tm 34)],
 sr 4 (tm 7) (tm 35)])
 (.reg [mo 36 (tm 4),
 b2 37 .add 3 (tm 36) (ki 1) 3 3,
 mo 4 (tm 37)]))
 .skip))
 (.seq (.keep [0, 3, 4, 6, 7, 14, 15, 16])
 (.dreg [mo 38 (tm 0),
 nc 39 (tm 38),
 fa 40 0 (tm 39),
 l1 41 (tm 40),
 mo 42 (tm 6),
 l2 43 4 (tm 7),
 ⟨none, none, .mput 9 (tm 41) (tm 42) (tm 43)⟩] [])))))))
 (.seq (.keep [0, 3, 4, 14, 15, 16])
 (.reg [b2 44 .add 3 (tm 16) (ki 1) 3 3,
 mo 16 (tm 44)])))))))

def lf24 : LFunc := ⟨2, [],
 (.seq (.reg [oo 3 (.box (tm 1))])
 (.seq (.seq (.reg [mo 8 (tm 0),
 ca 9 72 [(tm 8)]])
 (.cond (tm 9) .ret
 .skip))
 (.seq (.keep [0, 3])
 (.seq (.reg [mo 10 (tm 0),
 nc 11 (tm 10),
 fa 12 1 (tm 11),
 sr 1 (tm 12) (kB true)])
 (.seq (.reg [mo 4 (ki 0)])
 (.seq (.reg [mo 13 (tm 0),
 ca 14 64 [(tm 13)],
 le 15 false (tm 14),
 mo 16 (ki 0)])
 (.block 0 lp24x0)))))))⟩

def lf25 : LFunc := ⟨1, [],
 (.seq (.reg [mo 2 (tm 0),
 ca 3 72 [(tm 2)],
 u1 4 .not 4 (tm 3) 4])
 (.cond (tm 4) (.reg [mo 5 (tm 0),
 nc 6 (tm 5),
 fa 7 1 (tm 6),
 sr 1 (tm 7) (kB false)])
 .skip))⟩

def lp26x0 : LCode := .loop (.seq (.keep [1, 6, 7, 11, 13, 14])
 (.block 1 (.seq (.reg [mo 54 (tm 11),
 mo 55 (tm 13),
 oo 56 (.slcs (tm 54) (some (tm 55)) none),
 mo 11 (tm 56)])
 (.seq (.reg [mo 58 (tm 1),
 mo 59 (tm 11),
 ca 60 74 [(tm 58), (tm 59)],
 mo 57 (tm 60),
 ex 61 (tm 57) 0,
 ex 62 (tm 57) 1,
 mo 16 (tm 61),
 mo 17 (tm 62)])
 (.seq (.keep [1, 6, 7, 11, 14, 16, 17])
 (.seq (.reg [mo 64 (tm 16),
 ca 65 76 [(tm 64)],
 mo 63 (tm 65),
 ex 66 (tm 63) 0,
 ex 67 (tm 63) 1,
 oo 18 (.alloc [(.int .u8 0), (.int .u64 0), (.int .u8 0), (.int .u64 0), (.int .u64 0), (.int .u8 0), (.int .u8 0), (.int .u8 0), (.int .u8 0), (.int .u8 0), (.int .u8 0), (.int .u8 0), (.int .u8 0), (.int .u8 0), (.int .u8 0), (.string ⟨#[]⟩)]),
 sr 16 (tm 18) (tm 66),
 mo 19 (tm 67)])
 (.seq (.keep [1, 6, 7, 11, 14, 17, 18, 19])
 (.seq (.seq (.reg [mo 68 (tm 17),
 b2 69 .eql 3 (tm 68) (ki 0) 3 4,
 mo 70 (tm 69),
 ⟨(some 71), (some (70, false)), .mv (tm 19)⟩,
 ⟨(some 72), (some (70, false)), .prim ⟨none, (.unOp .not 4 (tm 71)), 4, "", #[], none⟩⟩,
 oo 73 (.pick (tm 70) (kB true) (tm 72))])
 (.cond (tm 73) (.exit 0)
 .skip))
 (.seq (.keep [1, 6, 7, 11, 14, 17, 18])
 (.reg [mo 74 (tm 7),
 l2 75 16 (tm 18),
 oo 76 (.bslice 16 1 [(.int .u8 0), (.int .u64 0), (.int .u8 0), (.int .u64 0), (.int .u64 0), (.int .u8 0), (.int .u8 0), (.int .u8 0), (.int .u8 0), (.int .u8 0), (.int .u8 0), (.int .u8 0), (.int .u8 0), (.int .u8 0), (.int .u8 0), (.string ⟨#[]⟩)] [(0, 16, (tm 75))]),
 ap 77 16 72 (tm 74) (tm 76),
 mo 78 (tm 17),
 mo 7 (tm 77),
 mo 13 (tm 78)]))))))))))

def lf26 : LFunc := ⟨3, [.tmp 6, .tmp 7, .tmp 8, .tmp 9],
 (.seq (.reg [mo 6 (ku 0),
 mo 7 (.const (.slice none 0 0)),
 mo 8 (kB false),
 mo 9 (ki 0)])
 (.seq (.seq (.reg [mo 20 (tm 0),
 mo 21 (tm 1),
 ca 22 67 [(tm 20), (tm 21)],
 mo 10 (tm 22)])
 (.seq (.reg [mo 23 (tm 10),
 b2 24 .neq 39 (tm 23) (ki 0) 39 4])
 (.cond (tm 24) (.seq (.reg [mo 25 (tm 10),
 mo 6 (ku 0),
 mo 7 (.const (.slice none 0 0)),
 mo 8 (kB false),
 mo 9 (tm 25)])
 .ret)
 .skip)))
 (.seq (.keep [0, 1, 2, 7])
 (.seq (.reg [mo 27 (tm 0),
 mo 28 (tm 2),
 ca 29 31 [(tm 28)],
 ca 30 36 [(tm 27), (tm 29)],
 mo 26 (tm 30),
 ex 31 (tm 26) 0,
 ex 32 (tm 26) 1,
 mo 11 (tm 31),
 mo 9 (tm 32)])
 (.seq (.keep [1, 7, 9, 11])
 (.seq (.seq (.reg [mo 33 (tm 9),
 b2 34 .neq 39 (tm 33) (ki 0) 39 4])
 (.cond (tm 34) (.seq (.reg [mo 35 (tm 9),
 mo 6 (ku 0),
 mo 7 (.const (.slice none 0 0)),
 mo 8 (kB false),
 mo 9 (tm 35)])
 .ret)
 .skip))
 (.seq (.keep [1, 7, 11])
 (.seq (.reg [mo 37 (tm 1),
 mo 38 (tm 11),
 ca 39 74 [(tm 37), (tm 38)],
 mo 36 (tm 39),
 ex 40 (tm 36) 0,
 ex 41 (tm 36) 1,
 mo 12 (tm 40),
 mo 13 (tm 41)])
 (.seq (.keep [1, 7, 11, 12, 13])
 (.seq (.reg [mo 43 (tm 12),
 ca 44 75 [(tm 43)],
 mo 42 (tm 44),
 ex 45 (tm 42) 0,
 ex 46 (tm 42) 1,
 ex 47 (tm 42) 2,
 mo 14 (tm 45),
 mo 6 (tm 46),
 mo 15 (tm 47)])
 (.seq (.keep [1, 6, 7, 11, 13, 14, 15])
 (.seq (.seq (.reg [mo 48 (tm 13),
 b2 49 .eql 3 (tm 48) (ki 0) 3 4,
 mo 50 (tm 49),
 ⟨(some 51), (some (50, false)), .mv (tm 15)⟩,
 ⟨(some 52), (some (50, false)), .prim ⟨none, (.unOp .not 4 (tm 51)), 4, "", #[], none⟩⟩,
 oo 53 (.pick (tm 50) (kB true) (tm 52))])
 (.cond (tm 53) (.seq (.reg [mo 6 (ku 0),
 mo 7 (.const (.slice none 0 0)),
 mo 8 (kB false),
 mo 9 (ki 0)])
 .ret)
 .skip))
 (.seq (.keep [1, 6, 7, 11, 13, 14])
 (.seq (.block 0 lp26x0)
 (.seq (.keep [6, 7, 14])
 (.seq (.reg [mo 79 (tm 6),
 mo 80 (tm 7),
 mo 81 (tm 7),
 le 82 false (tm 81),
 cv 83 3 22 (tm 82) 22,
 mo 84 (tm 14),
 b2 85 .geq 22 (tm 83) (tm 84) 22 4,
 mo 6 (tm 79),
 mo 7 (tm 80),
 mo 8 (tm 85),
 mo 9 (ki 0)])
 (.seq (.keep [6, 7, 8, 9])
 .ret)))))))))))))))))⟩

def lf27 : LFunc := ⟨2, [.tmp 4],
 (.seq (.reg [mo 4 (kB false)])
 (.seq (.reg [mo 5 (tm 0),
 le 6 false (tm 5),
 mo 7 (tm 1),
 le 8 false (tm 7),
 b2 9 .leq 3 (tm 6) (tm 8) 3 4,
 mo 10 (tm 9),
 ⟨(some 11), (some (10, true)), .mv (tm 0)⟩,
 ⟨(some 12), (some (10, true)), .mv (tm 1)⟩,
 ⟨(some 13), (some (10, true)), .mv (tm 0)⟩,
 ⟨(some 14), (some (10, true)), .len false (tm 13)⟩,
 ⟨(some 15), (some (10, true)), .slcl 16 (tm 12) none (some (tm 14)) none⟩,
 ⟨(some 16), (some (10, true)), .call 77 [(tm 11), (tm 15)]⟩,
 oo 17 (.pick (tm 10) (tm 16) (kB false)),
 mo 4 (tm 17)])
 (.seq (.keep [4])
 .ret)))⟩

def lf28 : LFunc := ⟨3, [.tmp 6, .tmp 7],
 (.seq (.reg [oo 5 (.box (tm 2)),
 mo 6 (.const (.slice none 0 0)),
 mo 7 (kB false)])
 (.seq (.reg [ca 17 18 [],
 mo 8 (tm 17)])
 (.seq (.reg [ca 18 19 [],
 oo 9 (.alloc [(.int .u32 0), (.int .u32 0), (.int .u32 0), (.int .u32 0), (.int .u32 0), (.int .u32 0), (.int .u32 0), (.int .u32 0), (.int .u32 0), (.int .u32 0), (.int .u32 0), (.int .u32 0), (.int .u32 0), (.int .u32 0), (.int .u32 0), (.int .u32 0), (.int .u32 0), (.int .u32 0), (.int .u32 0), (.int .u32 0), (.int .u32 0), (.int .u32 0), (.int .u32 0), (.int .u32 0), (.int .u32 0), (.int .u32 0), (.int .u32 0), (.int .u32 0), (.int .u32 0), (.int .u32 0), (.int .u32 0), (.int .u32 0), (.int .u32 0), (.int .u32 0), (.int .u32 0), (.int .u32 0), (.int .u32 0), (.int .u32 0), (.int .u32 0), (.int .u32 0), (.int .u32 0), (.int .u32 0), (.int .u32 0), (.int .u32 0), (.int .u32 0), (.int .u32 0), (.int .u32 0), (.int .u32 0), (.int .u32 0), (.int .u32 0), (.int .u32 0), (.int .u32 0), (.int .u32 0), (.int .u32 0), (.int .u32 0), (.int .u32 0), (.int .u32 0), (.int .u32 0), (.int .u32 0), (.int .u32 0), (.int .u32 0), (.int .u32 0), (.int .u32 0), (.int .u32 0), (.int .u32 0), (.int .u32 0), (.int .u32 0), (.int .u32 0), (.int .u32 0), (.int .u32 0), (.int .u32 0), (.int .u32 0), (.int .u32 0), (.int .u32 0), (.int .u32 0), (.int .u32 0), (.int .u32 0), (.int .u32 0), (.int .u32 0), (.int .u32 0), (.int .u32 0), (.int .u32 0), (.int .u32 0), (.int .u32 0), (.int .u32 0), (.int .u32 0), (.int .u32 0), (.int .u32 0), (.int .u32 0), (.int .u32 0), (.int .u32 0), (.int .u32 0), (.int .u32 0), (.int .u32 0), (.int .u32 0), (.int .u32 0), (.int .u32 0), (.int .u32 0), (.int .u32 0), (.int .u32 0), (.int .u32 0), (.int .u32 0), (.int .u32 0), (.int .u32 0), (.int .u32 0), (.int .u32 0), (.int .u32 0), (.int .u32 0), (.int .u32 0), (.int .u32 0), (.int .u32 0), (.int .u32 0), (.int .u32 0), (.int .u32 0), (.int .u32 0), (.int .u32 0), (.int .u32 0), (.int .u32 0), (.int .u32 0), (.int .u32 0), (.int .u32 0), (.int .u32 0), (.int .u32 0), (.int .u32 0), (.int .u32 0), (.int .u32 0), (.int .u32 0), (.int .u32 0), (.int .u32 0), (.int .u32 0), (.int .u32 0), (.int .u32 0), (.int .u32 0), (.int .u32 0), (.int .u32 0), (.int .u32 0), (.int .u32 0), (.int .u32 0), (.int .u32 0), (.int .u32 0), (.int .u32 0), (.int .u32 0), (.int .u32 0), (.int .u32 0), (.int .u32 0), (.int .u32 0), (.int .u32 0), (.int .u32 0), (.int .u32 0), (.int .u32 0), (.int .u32 0), (.int .u32 0), (.int .u32 0), (.int .u32 0), (.int .u32 0), (.int .u32 0), (.int .u32 0), (.int .u32 0), (.int .u32 0), (.int .u32 0), (.int .u32 0), (.int .u32 0), (.int .u32 0), (.int .u32 0), (.int .u32 0), (.int .u32 0), (.int .u32 0), (.int .u32 0), (.int .u32 0), (.int .u32 0), (.int .u32 0), (.int .u32 0), (.int .u32 0), (.int .u32 0), (.int .u32 0), (.int .u32 0), (.int .u32 0), (.int .u32 0), (.int .u32 0), (.int .u32 0), (.int .u32 0), (.int .u32 0), (.int .u32 0), (.int .u32 0), (.int .u32 0), (.int .u32 0), (.int .u32 0), (.int .u32 0), (.int .u32 0), (.int .u32 0), (.int .u32 0), (.int .u32 0), (.int .u32 0), (.int .u32 0), (.int .u32 0), (.int .u32 0), (.int .u32 0), (.int .u32 0), (.int .u32 0), (.int .u32 0), (.int .u32 0), (.int .u32 0), (.int .u32 0), (.int .u32 0), (.int .u32 0), (.int .u32 0), (.int .u32 0), (.int .u32 0), (.int .u32 0), (.int .u32 0), (.int .u32 0), (.int .u32 0), (.int .u32 0), (.int .u32 0), (.int .u32 0), (.int .u32 0), (.int .u32 0), (.int .u32 0), (.int .u32 0), (.int .u32 0), (.int .u32 0), (.int .u32 0), (.int .u32 0), (.int .u32 0), (.int .u32 0), (.int .u32 0), (.int .u32 0), (.int .u32 0), (.int .u32 0), (.int .u32 0), (.int .u32 0), (.int .u32 0), (.int .u32 0), (.int .u32 0), (.int .u32 0), (.int .u32 0), (.int .u32 0), (.int .u32 0), (.int .u32 0), (.int .u32 0), (.int .u32 0), (.int .u32 0), (.int .u32 0), (.int .u32 0), (.int .u32 0), (.int .u32 0), (.int .u32 0), (.int .u32 0), (.int .u32 0), (.int .u32 0), (.int .u32 0), (.int .u32 0), (.int .u32 0), (.int .u32 0), (.int .u32 0), (.int .u32 0)]),
 sr 256 (tm 9) (tm 18)])
 (.seq (.reg [mo 20 (tm 8),
 ca 21 21 [(tm 20), (tm 9), (ku 7), (ku 0), (.const (.slice none 0 0))],
 mo 19 (tm 21),
 ex 22 (tm 19) 0,
 ex 23 (tm 19) 1,
 mo 10 (tm 22),
 mo 11 (tm 23)])
 (.seq (.seq (.reg [mo 24 (tm 11),
 b2 25 .neq 39 (tm 24) (ki 0) 39 4,
 mo 26 (tm 25),
 ⟨(some 27), (some (26, false)), .mv (tm 10)⟩,
 ⟨(some 28), (some (26, false)), .cmpref 0 false (tm 27) (.const (.pointer none))⟩,
 oo 29 (.pick (tm 26) (kB true) (tm 28))])
 (.cond (tm 29) (.seq (.reg [mo 6 (.const (.slice none 0 0)),
 mo 7 (kB false)])
 .ret)
 .skip))
 (.seq (.keep [0, 1, 5, 8, 9, 10])
 (.seq (.reg [mo 30 (tm 8),
 mo 31 (tm 1),
 b2 32 .rem 5 (tm 31) (kb 50) 5 5,
 cv 33 5 3 (tm 32) 3,
 ca 34 22 [(tm 30), (tm 33)]])
 (.seq (.reg [mo 35 (tm 10),
 mo 36 (tm 0),
 ca 37 23 [(tm 35), (tm 36)],
 mo 12 (tm 37)])
 (.seq (.reg [mo 38 (tm 8),
 l2 39 2 (tm 5),
 ca 40 24 [(tm 38), (tm 39)]])
 (.seq (.reg [mo 41 (tm 8),
 ca 42 25 [(tm 41)]])
 (.seq (.reg [mo 44 (tm 8),
 ca 45 26 [(tm 44), (tm 9), (ku 7)],
 mo 43 (tm 45),
 ex 46 (tm 43) 0,
 ex 47 (tm 43) 1,
 ex 48 (tm 43) 2,
 ex 49 (tm 43) 3,
 mo 13 (tm 46),
 mo 14 (tm 47),
 mo 15 (tm 48),
 mo 16 (tm 49)])
 (.seq (.keep [0, 1, 12, 14, 15])
 (.seq (.reg [mo 50 (tm 14),
 mo 51 (tm 15),
 mo 52 (tm 51),
 ⟨(some 53), (some (52, true)), .mv (tm 12)⟩,
 ⟨(some 54), (some (52, true)), .prim ⟨none, (.binOp .eql 39 (tm 53) (ki 0) 39), 4, "", #[], none⟩⟩,
 ⟨(some 55), (some (52, true)), .mv (tm 1)⟩,
 ⟨(some 56), (some (52, true)), .prim ⟨none, (.binOp .rem 5 (tm 55) (kb 50) 5), 5, "", #[], none⟩⟩,
 ⟨(some 57), (some (52, true)), .prim ⟨none, (.binOp .eql 5 (tm 56) (kb 0) 5), 4, "", #[], none⟩⟩,
 ⟨(some 58), (some (52, true)), .mv (tm 57)⟩,
 ⟨(some 59), (some (58, false)), .mv (tm 1)⟩,
 ⟨(some 60), (some (58, false)), .prim ⟨none, (.binOp .rem 5 (tm 59) (kb 50) 5), 5, "", #[], none⟩⟩,
 ⟨(some 61), (some (58, false)), .prim ⟨none, (.convert 5 3 (tm 60)), 3, "", #[], none⟩⟩,
 ⟨(some 62), (some (58, false)), .mv (tm 0)⟩,
 ⟨(some 63), (some (58, false)), .len false (tm 62)⟩,
 ⟨(some 64), (some (58, false)), .prim ⟨none, (.binOp .add 3 (tm 63) (ki 1) 3), 3, "", #[], none⟩⟩,
 ⟨(some 65), (some (58, false)), .prim ⟨none, (.binOp .gtr 3 (tm 61) (tm 64) 3), 4, "", #[], none⟩⟩,
 ⟨(some 66), (some (52, true)), .pick (tm 58) (kB true) (tm 65)⟩,
 ⟨(some 67), (some (52, true)), .mv (tm 66)⟩,
 ⟨(some 68), (some (67, false)), .mv (tm 0)⟩,
 ⟨(some 69), (some (67, false)), .len false (tm 68)⟩,
 ⟨(some 70), (some (67, false)), .prim ⟨none, (.binOp .eql 3 (tm 69) (ki 0) 3), 4, "", #[], none⟩⟩,
 ⟨(some 71), (some (52, true)), .pick (tm 67) (kB true) (tm 70)⟩,
 ⟨(some 72), (some (52, true)), .prim ⟨none, (.binOp .eql 4 (tm 54) (tm 71) 4), 4, "", #[], none⟩⟩,
 oo 73 (.pick (tm 52) (tm 72) (kB false)),
 mo 6 (tm 50),
 mo 7 (tm 73)])
 (.seq (.keep [6, 7])
 .ret))))))))))))))⟩

def lf29 : LFunc := ⟨1, [.tmp 2, .tmp 3],
 (.seq (.reg [mo 2 (ku 0),
 mo 3 (kB false)])
 (.seq (.reg [mo 7 (tm 0),
 ca 8 79 [(tm 7), (.const (.string ⟨#[115, 101, 103, 46]⟩))],
 ca 9 78 [(tm 8), (ki 10), (ki 64)],
 mo 6 (tm 9),
 ex 10 (tm 6) 0,
 ex 11 (tm 6) 1,
 mo 4 (tm 10),
 mo 5 (tm 11)])
 (.seq (.keep [0, 4, 5])
 (.seq (.seq (.reg [mo 12 (tm 5),
 oo 13 (.cmpref 4 true (tm 12) (.const .nilIface)),
 mo 14 (tm 13),
 ⟨(some 15), (some (14, false)), .mv (tm 4)⟩,
 ⟨(some 16), (some (14, false)), .call 31 [(tm 15)]⟩,
 ⟨(some 17), (some (14, false)), .mv (tm 0)⟩,
 ⟨(some 18), (some (14, false)), .prim ⟨none, (.binOp .neq 9 (tm 16) (tm 17) 9), 4, "", #[], none⟩⟩,
 oo 19 (.pick (tm 14) (kB true) (tm 18))])
 (.seq (.keep [4, 19])
 (.cond (tm 19) (.seq (.reg [mo 2 (ku 0),
 mo 3 (kB false)])
 .ret)
 .skip)))
 (.seq (.keep [4])
 (.seq (.reg [mo 20 (tm 4),
 mo 2 (tm 20),
 mo 3 (kB true)])
 .ret))))))⟩

def lp30x0 : LCode := .loop (.seq (.keep [0, 4, 5])
 (.seq (.seq (.reg [mo 14 (tm 5),
 mo 15 (tm 0),
 ln 16 (tm 15) 9 3,
 b2 17 .lss 3 (tm 14) (tm 16) 3 4])
 (.cond (tm 17) .skip
 (.exit 0)))
 (.seq (.keep [0, 4, 5])
 (.seq (.block 1 (.seq (.seq (.reg [mo 20 (tm 0),
 mo 21 (tm 5),
 ix 22 9 (tm 20) (tm 21) 5,
 b2 23 .lss 5 (tm 22) (kb 48) 5 4,
 mo 24 (tm 23),
 ⟨(some 25), (some (24, false)), .mv (tm 0)⟩,
 ⟨(some 26), (some (24, false)), .mv (tm 5)⟩,
 ⟨(some 27), (some (24, false)), .prim ⟨none, (.index 9 (tm 25) (tm 26)), 5, "", #[], none⟩⟩,
 ⟨(some 28), (some (24, false)), .prim ⟨none, (.binOp .gtr 5 (tm 27) (kb 57) 5), 4, "", #[], none⟩⟩,
 oo 29 (.pick (tm 24) (kB true) (tm 28))])
 (.seq (.keep [0, 4, 5, 29])
 (.cond (tm 29) (.seq (.reg [mo 2 (ku 0),
 mo 3 (kB false)])
 .ret)
 .skip)))
 (.seq (.keep [0, 4, 5])
 (.reg [mo 30 (tm 4),
 b2 31 .mul 22 (ku 10) (tm 30) 22 22,
 mo 32 (tm 0),
 mo 33 (tm 5),
 ix 34 9 (tm 32) (tm 33) 5,
 b2 35 .sub 5 (tm 34) (kb 48) 5 5,
 cv 36 5 22 (tm 35) 22,
 b2 37 .add 22 (tm 31) (tm 36) 22 22,
 mo 4 (tm 37)]))))
 (.seq (.keep [0, 4, 5])
 (.reg [mo 18 (tm 5),
 b2 19 .add 3 (tm 18) (ki 1) 3 3,
 mo 5 (tm 19)]))))))

def lf30 : LFunc := ⟨1, [.tmp 2, .tmp 3],
 (.seq (.reg [mo 2 (ku 0),
 mo 3 (kB false)])
 (.seq (.seq (.reg [mo 6 (tm 0),
 ln 7 (tm 6) 9 3,
 b2 8 .lss 3 (tm 7) (ki 12) 3 4,
 mo 9 (tm 8),
 ⟨(some 10), (some (9, false)), .mv (tm 0)⟩,
 ⟨(some 11), (some (9, false)), .prim ⟨none, (.call ⟨.builtin .len, #[(tm 10)], #[9]⟩), 3, "", #[], none⟩⟩,
 ⟨(some 12), (some (9, false)), .prim ⟨none, (.binOp .gtr 3 (tm 11) (ki 24) 3), 4, "", #[], none⟩⟩,
 oo 13 (.pick (tm 9) (kB true) (tm 12))])
 (.seq (.keep [0, 13])
 (.cond (tm 13) (.seq (.reg [mo 2 (ku 0),
 mo 3 (kB false)])
 .ret)
 .skip)))
 (.seq (.keep [0])
 (.seq (.reg [mo 4 (ku 0)])
 (.seq (.seq (.reg [mo 5 (ki 4)])
 (.block 0 lp30x0))
 (.seq (.keep [0, 4])
 (.seq (.reg [mo 38 (tm 4),
 mo 39 (tm 4),
 ca 40 32 [(tm 39)],
 mo 41 (tm 0),
 b2 42 .eql 9 (tm 40) (tm 41) 9 4,
 mo 2 (tm 38),
 mo 3 (tm 42)])
 .ret)))))))⟩

def lf31 : LFunc := ⟨1, [.tmp 2],
 (.seq (.reg [mo 2 (.const (.string ⟨#[]⟩))])
 (.seq (.reg [mo 4 (tm 0),
 ca 5 80 [(tm 4), (ki 10)],
 mo 3 (tm 5)])
 (.seq (.reg [mo 6 (tm 3),
 ln 7 (tm 6) 9 3,
 b2 8 .sub 3 (ki 8) (tm 7) 3 3,
 oo 9 (.prim ⟨none, (.call ⟨.builtin .max, #[(tm 8), (ki 0)], #[3, 3]⟩), 3, "", #[], none⟩),
 ca 10 81 [(.const (.string ⟨#[48]⟩)), (tm 9)],
 b2 11 .add 9 (.const (.string ⟨#[115, 101, 103, 46]⟩)) (tm 10) 9 9,
 mo 12 (tm 3),
 b2 13 .add 9 (tm 11) (tm 12) 9 9,
 mo 2 (tm 13)])
 (.seq (.keep [2])
 .ret))))⟩

def lp32x0 : LCode := .loop (.seq (.keep [0, 3])
 (.seq (.seq (.reg [mo 4 (tm 0),
 b2 5 .gtr 22 (tm 4) (ku 0) 22 4,
 mo 6 (tm 5),
 ⟨(some 7), (some (6, false)), .mv (tm 3)⟩,
 ⟨(some 8), (some (6, false)), .prim ⟨none, (.call ⟨.builtin .len, #[(tm 7)], #[9]⟩), 3, "", #[], none⟩⟩,
 ⟨(some 9), (some (6, false)), .prim ⟨none, (.binOp .lss 3 (tm 8) (ki 8) 3), 4, "", #[], none⟩⟩,
 oo 10 (.pick (tm 6) (kB true) (tm 9))])
 (.cond (tm 10) .skip
 (.exit 0)))
 (.seq (.keep [0, 3])
 (.block 1 (.seq (.reg [mo 11 (tm 0),
 b2 12 .rem 22 (tm 11) (ku 10) 22 22,
 b2 13 .add 22 (ku 48) (tm 12) 22 22,
 cv 14 22 5 (tm 13) 5,
 oo 15 (.bslice 1 1 [(.int .u8 0)] [(0, 1, (tm 14))]),
 oo 16 (.cvbs (tm 15)),
 mo 17 (tm 3),
 b2 18 .add 9 (tm 16) (tm 17) 9 9,
 mo 3 (tm 18)])
 (.seq (.keep [0, 3])
 (.reg [mo 19 (tm 0),
 b2 20 .quo 22 (tm 19) (ku 10) 22 22,
 mo 0 (tm 20)])))))))

def lf32 : LFunc := ⟨1, [.tmp 2],
 (.seq (.reg [mo 2 (.const (.string ⟨#[]⟩))])
 (.seq (.reg [mo 3 (.const (.string ⟨#[]⟩))])
 (.seq (.block 0 lp32x0)
 (.seq (.keep [3])
 (.seq (.reg [mo 21 (tm 3),
 b2 22 .add 9 (.const (.string ⟨#[115, 101, 103, 46]⟩)) (tm 21) 9 9,
 mo 2 (tm 22)])
 .ret)))))⟩

def lf33 : LFunc := ⟨2, [.ldn 4 16],
 (.seq (.reg [oo 4 (.alloc [(.int .u8 0), (.int .u64 0), (.int .u8 0), (.int .u64 0), (.int .u64 0), (.int .u8 0), (.int .u8 0), (.int .u8 0), (.int .u8 0), (.int .u8 0), (.int .u8 0), (.int .u8 0), (.int .u8 0), (.int .u8 0), (.int .u8 0), (.string ⟨#[]⟩)])])
 (.seq (.reg [mo 5 (tm 0),
 mo 6 (tm 1),
 oo 7 (.build [(.int .u8 0), (.int .u64 0), (.int .u8 0), (.int .u64 0), (.int .u64 0), (.int .u8 0), (.int .u8 0), (.int .u8 0), (.int .u8 0), (.int .u8 0), (.int .u8 0), (.int .u8 0), (.int .u8 0), (.int .u8 0), (.int .u8 0), (.string ⟨#[]⟩)] [(0, 1, (kb 2)), (1, 1, (tm 5)), (2, 1, (tm 6))]),
 sr 16 (tm 4) (tm 7)])
 .ret))⟩

def lp34x0 : LCode := .loop (.seq (.keep [3, 9, 10, 11])
 (.seq (.reg [b2 12 .lss 3 (tm 11) (tm 10) 3 0])
 (.seq (.cond (tm 12) .skip
 (.exit 0))
 (.seq (.keep [3, 9, 10, 11])
 (.seq (.block 1 (.seq (.reg [is 13 1 (tm 9) (tm 11),
 l1 14 (tm 13),
 mo 5 (tm 14)])
 (.seq (.reg [mo 16 (tm 5),
 ca 17 29 [(tm 16)],
 mo 15 (tm 17),
 ex 18 (tm 15) 0,
 ex 19 (tm 15) 1,
 mo 6 (tm 18),
 mo 7 (tm 19)])
 (.seq (.reg [mo 20 (tm 7)])
 (.cond (tm 20) (.reg [mo 21 (tm 3),
 mo 22 (tm 6),
 oo 23 (.bslice 1 1 [(.int .u64 0)] [(0, 1, (tm 22))]),
 ap 24 1 8 (tm 21) (tm 23),
 mo 3 (tm 24)])
 .skip)))))
 (.seq (.keep [3, 9, 10, 11])
 (.reg [b2 25 .add 3 (tm 11) (ki 1) 3 3,
 mo 11 (tm 25)])))))))

def lf34 : LFunc := ⟨1, [.tmp 2],
 (.seq (.reg [mo 2 (.const (.slice none 0 0))])
 (.seq (.reg [mo 3 (.const (.slice none 0 0))])
 (.seq (.seq (.reg [mo 8 (tm 0),
 ca 9 64 [(tm 8)],
 le 10 false (tm 9),
 mo 11 (ki 0)])
 (.block 0 lp34x0))
 (.seq (.keep [3])
 (.seq (.reg [mo 26 (tm 3),
 ca 27 82 [(tm 26)]])
 (.seq (.reg [mo 28 (tm 3),
 mo 2 (tm 28)])
 .ret))))))⟩

def lf35 : LFunc := ⟨1, [.tmp 2],
 (.seq (.reg [mo 2 (ki 0)])
 (.seq (.seq (.reg [mo 3 (tm 0),
 oo 4 (.cmpref 0 false (tm 3) (.const (.pointer none)))])
 (.cond (tm 4) (.seq (.reg [mo 2 (ki 0)])
 .ret)
 .skip))
 (.seq (.keep [0])
 (.seq (.reg [mo 5 (tm 0),
 nc 6 (tm 5),
 fa 7 3 (tm 6),
 l1 8 (tm 7),
 mo 2 (tm 8)])
 .ret))))⟩

def lf36 : LFunc := ⟨2, [.tmp 4, .tmp 5],
 (.seq (.reg [mo 4 (.const (.string ⟨#[]⟩)),
 mo 5 (ki 0)])
 (.seq (.seq (.reg [mo 9 (tm 0),
 ca 10 83 [(tm 9)],
 mo 6 (tm 10)])
 (.seq (.reg [mo 11 (tm 6),
 b2 12 .neq 39 (tm 11) (ki 0) 39 4])
 (.cond (tm 12) (.seq (.reg [mo 13 (tm 6),
 mo 4 (.const (.string ⟨#[]⟩)),
 mo 5 (tm 13)])
 .ret)
 .skip)))
 (.seq (.keep [0, 1])
 (.seq (.reg [mo 15 (tm 0),
 nc 16 (tm 15),
 fa 17 0 (tm 16),
 l1 18 (tm 17),
 mo 19 (tm 1),
 oo 20 (.look 9 (.agg #[(.slice none 0 0), (.int .i64 0), (.bool false), (.string ⟨#[]⟩)]) (tm 18) (tm 19) true),
 mo 14 (tm 20),
 ex 21 (tm 14) 0,
 ex 22 (tm 14) 1,
 oo 7 (.alloc [(.slice none 0 0), (.int .i64 0), (.bool false), (.string ⟨#[]⟩)]),
 sr 4 (tm 7) (tm 21),
 mo 8 (tm 22)])
 (.seq (.keep [7, 8])
 (.seq (.seq (.reg [mo 23 (tm 8),
 u1 24 .not 4 (tm 23) 4])
 (.cond (tm 24) (.seq (.reg [mo 4 (.const (.string ⟨#[]⟩)),
 mo 5 (ki 4)])
 .ret)
 .skip))
 (.seq (.keep [7])
 (.seq (.dreg [fa 25 0 (tm 7),
 l1 26 (tm 25),
 ca 27 84 [(tm 26), (.const (.string ⟨#[]⟩))],
 fa 28 3 (tm 7),
 l1 29 (tm 28),
 b2 30 .add 9 (tm 27) (tm 29) 9 9,
 mo 4 (tm 30),
 mo 5 (ki 0)] [(4, 0, 1)])
 (.seq (.keep [4, 5])
 .ret)))))))))⟩

def lf37 : LFunc := ⟨1, [.tmp 2],
 (.seq (.reg [mo 2 (ku 0)])
 (.seq (.seq (.reg [mo 3 (tm 0),
 oo 4 (.cmpref 0 false (tm 3) (.const (.pointer none)))])
 (.cond (tm 4) (.seq (.reg [mo 2 (ku 0)])
 .ret)
 .skip))
 (.seq (.keep [0])
 (.seq (.reg [mo 5 (tm 0),
 nc 6 (tm 5),
 fa 7 2 (tm 6),
 l1 8 (tm 7),
 mo 2 (tm 8)])
 .ret))))⟩

def lf38 : LFunc := ⟨1, [.tmp 2],
 (.seq (.reg [mo 2 (kB false)])
 (.seq (.reg [mo 6 (tm 0),
 ca 7 31 [(ku 7)],
 ca 8 85 [(tm 6), (tm 7)],
 mo 5 (tm 8),
 ex 9 (tm 5) 0,
 ex 10 (tm 5) 1,
 mo 3 (tm 9),
 mo 4 (tm 10)])
 (.seq (.keep [3])
 (.seq (.reg [mo 11 (tm 3),
 b2 12 .gtr 3 (tm 11) (ki 0) 3 4,
 mo 2 (tm 12)])
 .ret))))⟩

def lp39x0 : LCode := .loop (.seq (.keep [0, 3])
 (.seq (.seq (.reg [mo 7 (tm 3),
 mo 8 (tm 0),
 le 9 false (tm 8),
 b2 10 .lss 3 (tm 7) (tm 9) 3 4])
 (.cond (tm 10) .skip
 (.exit 0)))
 (.seq (.keep [0, 3])
 (.seq (.block 1 (.seq (.reg [mo 13 (tm 0),
 mo 14 (tm 3),
 is 15 10 (tm 13) (tm 14),
 fa 16 3 (tm 15),
 l1 17 (tm 16),
 ca 18 15 [(tm 17)],
 mo 19 (tm 18),
 ⟨(some 20), (some (19, false)), .mv (tm 0)⟩,
 ⟨(some 21), (some (19, false)), .mv (tm 3)⟩,
 ⟨(some 22), (some (19, false)), .iadrs 10 (tm 20) (tm 21)⟩,
 ⟨(some 23), (some (19, false)), .fadr 4 (tm 22)⟩,
 ⟨(some 24), (some (19, false)), .ldn 6 (tm 23)⟩,
 ⟨(some 25), (some (19, false)), .bslice 6 1 [(.int .u8 0), (.string ⟨#[]⟩), (.string ⟨#[]⟩), (.int .i64 0), (.slice none 0 0), (.slice none 0 0)] [(0, 6, (tm 24))]⟩,
 ⟨(some 26), (some (19, false)), .call 86 [(tm 25)]⟩,
 oo 27 (.pick (tm 19) (kB true) (tm 26))])
 (.seq (.keep [0, 3, 27])
 (.cond (tm 27) (.seq (.reg [mo 2 (kB true)])
 .ret)
 .skip))))
 (.seq (.keep [0, 3])
 (.reg [mo 11 (tm 3),
 b2 12 .add 3 (tm 11) (ki 1) 3 3,
 mo 3 (tm 12)]))))))

def lf39 : LFunc := ⟨1, [.tmp 2],
 (.seq (.reg [mo 2 (kB false)])
 (.seq (.seq (.reg [mo 4 (tm 0),
 le 5 false (tm 4),
 b2 6 .gtr 3 (tm 5) (ki 60) 3 4])
 (.cond (tm 6) (.seq (.reg [mo 2 (kB true)])
 .ret)
 .skip))
 (.seq (.keep [0])
 (.seq (.seq (.reg [mo 3 (ki 0)])
 (.block 0 lp39x0))
 (.seq (.keep [])
 (.seq (.reg [mo 2 (kB false)])
 .ret))))))⟩

def lf40 : LFunc := ⟨2, [.tmp 4],
 (.seq (.reg [oo 3 (.box (tm 1)),
 mo 4 (kB false)])
 (.seq (.seq (.reg [fa 24 0 (tm 3),
 l1 25 (tm 24)])
 (.block 0 (.seq (.reg [b2 27 .eql 5 (tm 25) (kb 0) 5 4,
 mo 26 (tm 27)])
 (.cond (tm 26) (.seq (.dreg [mo 29 (tm 0),
 nc 30 (tm 29),
 fa 31 0 (tm 30),
 l1 32 (tm 31),
 mo 33 (tm 0),
 nc 34 (tm 33),
 fa 35 1 (tm 34),
 l1 36 (tm 35),
 fa 37 1 (tm 3),
 l1 38 (tm 37),
 fa 39 2 (tm 3),
 l1 40 (tm 39),
 fa 41 3 (tm 3),
 l1 42 (tm 41),
 ca 43 21 [(tm 32), (tm 36), (tm 38), (tm 40), (tm 42)],
 mo 28 (tm 43),
 ex 44 (tm 28) 0,
 ex 45 (tm 28) 1,
 mo 5 (tm 44),
 mo 6 (tm 45)] [])
 (.seq (.keep [0, 3, 5, 6])
 (.seq (.dreg [mo 46 (tm 0),
 nc 47 (tm 46),
 fa 48 3 (tm 47),
 l1 49 (tm 48),
 fa 50 1 (tm 3),
 l1 51 (tm 50),
 fa 52 2 (tm 3),
 l1 53 (tm 52),
 fa 54 3 (tm 3),
 l1 55 (tm 54),
 ca 56 87 [(tm 49), (tm 51), (tm 53), (tm 55)],
 mo 7 (tm 56)] [])
 (.seq (.keep [0, 3, 5, 6, 7])
 (.seq (.seq (.reg [mo 57 (tm 6),
 b2 58 .eql 39 (tm 57) (ki 0) 39 4])
 (.cond (tm 58) (.seq (.reg [mo 59 (tm 0),
 mo 60 (tm 5),
 nc 61 (tm 59),
 fa 62 2 (tm 61),
 sr 1 (tm 62) (tm 60)])
 (.seq (.reg [mo 63 (tm 0),
 fa 64 1 (tm 3),
 l1 65 (tm 64),
 nc 66 (tm 63),
 fa 67 4 (tm 66),
 sr 1 (tm 67) (tm 65)])
 (.reg [mo 68 (tm 0),
 nc 69 (tm 68),
 fa 70 5 (tm 69),
 sr 1 (tm 70) (kB true)])))
 .skip))
 (.seq (.keep [3, 5, 6, 7])
 (.seq (.dreg [mo 71 (tm 6),
 mo 72 (tm 7),
 b2 73 .eql 39 (tm 71) (tm 72) 39 4,
 mo 74 (tm 73),
 ⟨(some 75), (some (74, true)), .mv (tm 6)⟩,
 ⟨(some 76), (some (74, true)), .prim ⟨none, (.binOp .eql 39 (tm 75) (ki 0) 39), 4, "", #[], none⟩⟩,
 ⟨(some 77), (some (74, true)), .mv (tm 5)⟩,
 ⟨(some 78), (some (74, true)), .cmpref 0 true (tm 77) (.const (.pointer none))⟩,
 ⟨(some 79), (some (74, true)), .prim ⟨none, (.binOp .eql 4 (tm 76) (tm 78) 4), 4, "", #[], none⟩⟩,
 oo 80 (.pick (tm 74) (tm 79) (kB false)),
 mo 81 (tm 80),
 ⟨(some 82), (some (81, true)), .mv (tm 6)⟩,
 ⟨(some 83), (some (81, true)), .prim ⟨none, (.binOp .neq 39 (tm 82) (ki 0) 39), 4, "", #[], none⟩⟩,
 ⟨(some 84), (some (81, true)), .mv (tm 83)⟩,
 ⟨(some 85), (some (84, false)), .mv (tm 5)⟩,
 ⟨(some 86), (some (84, false)), .call 37 [(tm 85)]⟩,
 ⟨(some 87), (some (84, false)), .fadr 1 (tm 3)⟩,
 ⟨(some 88), (some (84, false)), .ld1 (tm 87)⟩,
 ⟨(some 89), (some (84, false)), .prim ⟨none, (.binOp .eql 22 (tm 86) (tm 88) 22), 4, "", #[], none⟩⟩,
 ⟨(some 90), (some (84, false)), .mv (tm 89)⟩,
 ⟨(some 91), (some (90, true)), .mv (tm 5)⟩,
 ⟨(some 92), (some (90, true)), .call 35 [(tm 91)]⟩,
 ⟨(some 93), (some (90, true)), .prim ⟨none, (.binOp .eql 3 (tm 92) (ki 0) 3), 4, "", #[], none⟩⟩,
 ⟨(some 94), (some (84, false)), .pick (tm 90) (tm 93) (kB false)⟩,
 ⟨(some 95), (some (81, true)), .pick (tm 84) (kB true) (tm 94)⟩,
 oo 96 (.pick (tm 81) (tm 95) (kB false)),
 mo 4 (tm 96)] [(17, 0, 1)])
 (.seq (.keep [4])
 .ret))))))))
 (.seq (.reg [b2 98 .eql 5 (tm 25) (kb 1) 5 4,
 mo 97 (tm 98)])
 (.cond (tm 97) (.seq (.reg [mo 99 (tm 0),
 nc 100 (tm 99),
 fa 101 2 (tm 100),
 l1 102 (tm 101),
 ca 103 35 [(tm 102)],
 mo 8 (tm 103)])
 (.seq (.dreg [mo 104 (tm 0),
 nc 105 (tm 104),
 fa 106 2 (tm 105),
 l1 107 (tm 106),
 fa 108 3 (tm 3),
 l1 109 (tm 108),
 ca 110 23 [(tm 107), (tm 109)],
 mo 9 (tm 110)] [])
 (.seq (.keep [0, 3, 8, 9])
 (.seq (.seq (.reg [mo 111 (tm 0),
 nc 112 (tm 111),
 fa 113 5 (tm 112),
 l1 114 (tm 113),
 u1 115 .not 4 (tm 114) 4])
 (.cond (tm 115) (.seq (.reg [mo 116 (tm 9),
 b2 117 .eql 39 (tm 116) (ki 2) 39 4,
 mo 118 (tm 117),
 ⟨(some 119), (some (118, true)), .mv (tm 8)⟩,
 ⟨(some 120), (some (118, true)), .prim ⟨none, (.binOp .eql 3 (tm 119) (ki 0) 3), 4, "", #[], none⟩⟩,
 oo 121 (.pick (tm 118) (tm 120) (kB false)),
 mo 4 (tm 121)])
 .ret)
 .skip))
 (.seq (.keep [0, 3, 8, 9])
 (.seq (.dreg [mo 122 (tm 0),
 nc 123 (tm 122),
 fa 124 3 (tm 123),
 l1 125 (tm 124),
 mo 126 (tm 0),
 nc 127 (tm 126),
 fa 128 4 (tm 127),
 l1 129 (tm 128),
 fa 130 3 (tm 3),
 l1 131 (tm 130),
 ca 132 88 [(tm 125), (tm 129), (tm 131)],
 mo 10 (tm 132)] [])
 (.seq (.keep [0, 3, 8, 9, 10])
 (.seq (.reg [mo 133 (tm 8),
 mo 11 (tm 133)])
 (.seq (.seq (.reg [mo 134 (tm 9),
 b2 135 .eql 39 (tm 134) (ki 0) 39 4])
 (.cond (tm 135) (.reg [mo 136 (tm 8),
 fa 137 3 (tm 3),
 l1 138 (tm 137),
 le 139 false (tm 138),
 b2 140 .add 3 (tm 136) (tm 139) 3 3,
 mo 11 (tm 140)])
 .skip))
 (.seq (.keep [0, 9, 10, 11])
 (.seq (.reg [mo 141 (tm 9),
 mo 142 (tm 10),
 b2 143 .eql 39 (tm 141) (tm 142) 39 4,
 mo 144 (tm 143),
 ⟨(some 145), (some (144, true)), .mv (tm 0)⟩,
 ⟨(some 146), (some (144, true)), .nilck (tm 145)⟩,
 ⟨(some 147), (some (144, true)), .fadr 2 (tm 146)⟩,
 ⟨(some 148), (some (144, true)), .ld1 (tm 147)⟩,
 ⟨(some 149), (some (144, true)), .call 35 [(tm 148)]⟩,
 ⟨(some 150), (some (144, true)), .mv (tm 11)⟩,
 ⟨(some 151), (some (144, true)), .prim ⟨none, (.binOp .eql 3 (tm 149) (tm 150) 3), 4, "", #[], none⟩⟩,
 oo 152 (.pick (tm 144) (tm 151) (kB false)),
 mo 4 (tm 152)])
 (.seq (.keep [4])
 .ret))))))))))))
 (.seq (.reg [b2 154 .eql 5 (tm 25) (kb 2) 5 4,
 mo 153 (tm 154)])
 (.cond (tm 153) (.seq (.dreg [mo 156 (tm 0),
 nc 157 (tm 156),
 fa 158 0 (tm 157),
 l1 159 (tm 158),
 mo 160 (tm 0),
 nc 161 (tm 160),
 fa 162 1 (tm 161),
 l1 163 (tm 162),
 fa 164 1 (tm 3),
 l1 165 (tm 164),
 ca 166 26 [(tm 159), (tm 163), (tm 165)],
 mo 155 (tm 166),
 ex 167 (tm 155) 0,
 ex 168 (tm 155) 1,
 ex 169 (tm 155) 2,
 ex 170 (tm 155) 3,
 mo 12 (tm 167),
 mo 13 (tm 168),
 mo 14 (tm 169),
 mo 15 (tm 170)] [])
 (.seq (.keep [0, 3, 12, 13, 14, 15])
 (.seq (.dreg [mo 172 (tm 0),
 nc 173 (tm 172),
 fa 174 3 (tm 173),
 l1 175 (tm 174),
 fa 176 1 (tm 3),
 l1 177 (tm 176),
 ca 178 89 [(tm 175), (tm 177)],
 mo 171 (tm 178),
 ex 179 (tm 171) 0,
 ex 180 (tm 171) 1,
 ex 181 (tm 171) 2,
 ex 182 (tm 171) 3,
 mo 16 (tm 179),
 mo 17 (tm 180),
 mo 18 (tm 181),
 mo 19 (tm 182)] [])
 (.seq (.keep [12, 13, 14, 15, 16, 17, 18, 19])
 (.seq (.reg [mo 183 (tm 12),
 mo 184 (tm 16),
 b2 185 .eql 22 (tm 183) (tm 184) 22 4,
 mo 186 (tm 185),
 ⟨(some 187), (some (186, true)), .mv (tm 13)⟩,
 ⟨(some 188), (some (186, true)), .mv (tm 17)⟩,
 ⟨(some 189), (some (186, true)), .call 77 [(tm 187), (tm 188)]⟩,
 oo 190 (.pick (tm 186) (tm 189) (kB false)),
 mo 191 (tm 190),
 ⟨(some 192), (some (191, true)), .mv (tm 14)⟩,
 ⟨(some 193), (some (191, true)), .mv (tm 18)⟩,
 ⟨(some 194), (some (191, true)), .prim ⟨none, (.binOp .eql 4 (tm 192) (tm 193) 4), 4, "", #[], none⟩⟩,
 oo 195 (.pick (tm 191) (tm 194) (kB false)),
 mo 196 (tm 195),
 ⟨(some 197), (some (196, true)), .mv (tm 15)⟩,
 ⟨(some 198), (some (196, true)), .mv (tm 19)⟩,
 ⟨(some 199), (some (196, true)), .prim ⟨none, (.binOp .eql 39 (tm 197) (tm 198) 39), 4, "", #[], none⟩⟩,
 oo 200 (.pick (tm 196) (tm 199) (kB false)),
 mo 4 (tm 200)])
 (.seq (.keep [4])
 .ret))))))
 (.seq (.reg [b2 202 .eql 5 (tm 25) (kb 3) 5 4,
 mo 201 (tm 202)])
 (.cond (tm 201) (.seq (.dreg [mo 204 (tm 0),
 nc 205 (tm 204),
 fa 206 0 (tm 205),
 l1 207 (tm 206),
 fa 208 4 (tm 3),
 l2 209 6 (tm 208),
 ca 210 90 [(tm 207), (tm 209)],
 mo 203 (tm 210),
 ex 211 (tm 203) 0,
 ex 212 (tm 203) 1,
 mo 20 (tm 211),
 mo 21 (tm 212)] [])
 (.seq (.keep [0, 3, 21])
 (.seq (.dreg [mo 214 (tm 0),
 nc 215 (tm 214),
 fa 216 3 (tm 215),
 l1 217 (tm 216),
 fa 218 4 (tm 3),
 l2 219 6 (tm 218),
 ca 220 91 [(tm 217), (tm 219)],
 mo 213 (tm 220),
 ex 221 (tm 213) 0,
 ex 222 (tm 213) 1,
 mo 22 (tm 221),
 mo 23 (tm 222)] [])
 (.seq (.keep [21, 23])
 (.seq (.reg [mo 223 (tm 21),
 mo 224 (tm 23),
 b2 225 .eql 39 (tm 223) (tm 224) 39 4,
 mo 4 (tm 225)])
 .ret)))))
 .skip))))))))))
 (.seq (.keep [])
 (.seq (.reg [mo 4 (kB true)])
 .ret))))⟩

def lp41x0 : LCode := .loop (.seq (.keep [0, 3, 4, 5, 7])
 (.seq (.seq (.reg [mo 34 (tm 7),
 b2 35 .gtr 3 (tm 34) (ki 0) 3 4,
 mo 36 (tm 35),
 ⟨(some 37), (some (36, true)), .mv (tm 3)⟩,
 ⟨(some 38), (some (36, true)), .mv (tm 7)⟩,
 ⟨(some 39), (some (36, true)), .prim ⟨none, (.binOp .sub 3 (tm 38) (ki 1) 3), 3, "", #[], none⟩⟩,
 ⟨(some 40), (some (36, true)), .iadrs 1 (tm 37) (tm 39)⟩,
 ⟨(some 41), (some (36, true)), .ld1 (tm 40)⟩,
 ⟨(some 42), (some (36, true)), .mv (tm 5)⟩,
 ⟨(some 43), (some (36, true)), .prim ⟨none, (.binOp .gtr 22 (tm 41) (tm 42) 22), 4, "", #[], none⟩⟩,
 oo 44 (.pick (tm 36) (tm 43) (kB false))])
 (.seq (.keep [0, 3, 4, 5, 7, 44])
 (.cond (tm 44) .skip
 (.exit 2))))
 (.seq (.keep [0, 3, 4, 5, 7])
 (.block 3 (.reg [mo 45 (tm 7),
 b2 46 .sub 3 (tm 45) (ki 1) 3 3,
 mo 7 (tm 46)])))))

def lp41x1 : LCode := .loop (.seq (.keep [0, 3, 4])
 (.seq (.seq (.reg [mo 9 (tm 4),
 mo 10 (tm 0),
 nc 11 (tm 10),
 fa 12 0 (tm 11),
 l1 13 (tm 12),
 le 14 false (tm 13),
 b2 15 .lss 3 (tm 9) (tm 14) 3 4])
 (.cond (tm 15) .skip
 (.exit 0)))
 (.seq (.keep [0, 3, 4])
 (.seq (.block 1 (.seq (.reg [mo 19 (tm 0),
 nc 20 (tm 19),
 fa 21 0 (tm 20),
 l1 22 (tm 21),
 mo 23 (tm 4),
 is 24 5 (tm 22) (tm 23),
 fa 25 0 (tm 24),
 l1 26 (tm 25),
 ca 27 30 [(tm 26)],
 mo 18 (tm 27),
 ex 28 (tm 18) 0,
 ex 29 (tm 18) 1,
 mo 5 (tm 28),
 mo 6 (tm 29)])
 (.seq (.keep [0, 3, 4, 5, 6])
 (.seq (.seq (.reg [mo 30 (tm 6),
 u1 31 .not 4 (tm 30) 4])
 (.cond (tm 31) (.exit 1)
 .skip))
 (.seq (.keep [0, 3, 4, 5])
 (.seq (.reg [mo 32 (tm 3),
 le 33 false (tm 32),
 mo 7 (tm 33)])
 (.seq (.block 2 lp41x0)
 (.seq (.keep [0, 3, 4, 5, 7])
 (.seq (.reg [oo 47 (.bslice 1 0 [(.int .u64 0)] []),
 mo 48 (tm 3),
 mo 49 (tm 7),
 oo 50 (.slcl 1 (tm 48) none (some (tm 49)) none),
 ap 51 1 8 (tm 47) (tm 50),
 mo 8 (tm 51)])
 (.seq (.reg [mo 52 (tm 8),
 mo 53 (tm 5),
 oo 54 (.bslice 1 1 [(.int .u64 0)] [(0, 1, (tm 53))]),
 ap 55 1 8 (tm 52) (tm 54),
 mo 8 (tm 55)])
 (.reg [mo 56 (tm 8),
 mo 57 (tm 3),
 mo 58 (tm 7),
 oo 59 (.slcl 1 (tm 57) (some (tm 58)) none none),
 ap 60 1 8 (tm 56) (tm 59),
 mo 3 (tm 60)])))))))))))
 (.seq (.keep [0, 3, 4])
 (.reg [mo 16 (tm 4),
 b2 17 .add 3 (tm 16) (ki 1) 3 3,
 mo 4 (tm 17)]))))))

def lf41 : LFunc := ⟨1, [.tmp 2],
 (.seq (.reg [mo 2 (.const (.slice none 0 0))])
 (.seq (.reg [mo 3 (.const (.slice none 0 0))])
 (.seq (.seq (.reg [mo 4 (ki 0)])
 (.block 0 lp41x1))
 (.seq (.keep [3])
 (.seq (.reg [mo 61 (tm 3),
 mo 2 (tm 61)])
 .ret)))))⟩

def lp42x0 : LCode := .loop (.seq (.keep [1, 3])
 (.seq (.seq (.reg [mo 4 (tm 3),
 b2 5 .lss 3 (tm 4) (ki 5) 3 4])
 (.cond (tm 5) .skip
 (.exit 0)))
 (.seq (.keep [1, 3])
 (.seq (.block 1 (.seq (.reg [mo 8 (tm 3),
 fa 9 3 (tm 1),
 oo 10 (.iadra 5 1 (tm 9) (tm 8)),
 l1 11 (tm 10),
 ln 12 (tm 11) 9 3,
 b2 13 .gtr 3 (tm 12) (ki 200) 3 4])
 (.cond (tm 13) (.seq (.reg [mo 2 (kB true)])
 .ret)
 .skip)))
 (.seq (.keep [1, 3])
 (.reg [mo 6 (tm 3),
 b2 7 .add 3 (tm 6) (ki 1) 3 3,
 mo 3 (tm 7)]))))))

def lf42 : LFunc := ⟨1, [.tmp 2],
 (.seq (.reg [oo 1 (.box (tm 0)),
 mo 2 (kB false)])
 (.seq (.seq (.reg [mo 3 (ki 0)])
 (.block 0 lp42x0))
 (.seq (.keep [1])
 (.seq (.reg [fa 14 0 (tm 1),
 l1 15 (tm 14),
 b2 16 .gtr 22 (tm 15) (ku 4611686018427387904) 22 4,
 mo 2 (tm 16)])
 .ret))))⟩

def lp43x0 : LCode := .loop (.seq (.keep [1, 4, 5, 6])
 (.seq (.seq (.reg [mo 28 (tm 6),
 fa 29 10 (tm 1),
 l1 30 (tm 29),
 le 31 false (tm 30),
 b2 32 .lss 3 (tm 28) (tm 31) 3 4])
 (.cond (tm 32) .skip
 (.exit 2)))
 (.seq (.keep [1, 4, 5, 6])
 (.seq (.block 3 (.seq (.seq (.reg [mo 35 (tm 4),
 b2 36 .eql 22 (tm 35) (ku 18446744073709551615) 22 4,
 mo 37 (tm 36),
 ⟨(some 38), (some (37, false)), .fadr 10 (tm 1)⟩,
 ⟨(some 39), (some (37, false)), .ld1 (tm 38)⟩,
 ⟨(some 40), (some (37, false)), .mv (tm 6)⟩,
 ⟨(some 41), (some (37, false)), .iadrs 13 (tm 39) (tm 40)⟩,
 ⟨(some 42), (some (37, false)), .fadr 0 (tm 41)⟩,
 ⟨(some 43), (some (37, false)), .ld1 (tm 42)⟩,
 ⟨(some 44), (some (37, false)), .mv (tm 4)⟩,
 ⟨(some 45), (some (37, false)), .prim ⟨none, (.binOp .add 22 (tm 44) (ku 1) 22), 22, "", #[], none⟩⟩,
 ⟨(some 46), (some (37, false)), .prim ⟨none, (.binOp .neq 22 (tm 43) (tm 45) 22), 4, "", #[], none⟩⟩,
 oo 47 (.pick (tm 37) (kB true) (tm 46)),
 mo 48 (tm 47),
 ⟨(some 49), (some (48, false)), .fadr 10 (tm 1)⟩,
 ⟨(some 50), (some (48, false)), .ld1 (tm 49)⟩,
 ⟨(some 51), (some (48, false)), .mv (tm 6)⟩,
 ⟨(some 52), (some (48, false)), .iadrs 13 (tm 50) (tm 51)⟩,
 ⟨(some 53), (some (48, false)), .fadr 1 (tm 52)⟩,
 ⟨(some 54), (some (48, false)), .ld1 (tm 53)⟩,
 ⟨(some 55), (some (48, false)), .mv (tm 5)⟩,
 ⟨(some 56), (some (48, false)), .prim ⟨none, (.binOp .lss 22 (tm 54) (tm 55) 22), 4, "", #[], none⟩⟩,
 oo 57 (.pick (tm 48) (kB true) (tm 56))])
 (.seq (.keep [1, 6, 57])
 (.cond (tm 57) (.seq (.reg [mo 2 (kB false)])
 .ret)
 .skip)))
 (.seq (.keep [1, 6])
 (.seq (.reg [fa 58 10 (tm 1),
 l1 59 (tm 58),
 mo 60 (tm 6),
 is 61 13 (tm 59) (tm 60),
 fa 62 0 (tm 61),
 l1 63 (tm 62),
 mo 4 (tm 63)])
 (.reg [fa 64 10 (tm 1),
 l1 65 (tm 64),
 mo 66 (tm 6),
 is 67 13 (tm 65) (tm 66),
 fa 68 1 (tm 67),
 l1 69 (tm 68),
 mo 5 (tm 69)])))))
 (.seq (.keep [1, 4, 5, 6])
 (.reg [mo 33 (tm 6),
 b2 34 .add 3 (tm 33) (ki 1) 3 3,
 mo 6 (tm 34)]))))))

def lp43x1 : LCode := .loop (.seq (.keep [1, 3])
 (.seq (.seq (.reg [mo 7 (tm 3),
 fa 8 10 (tm 1),
 l1 9 (tm 8),
 le 10 false (tm 9),
 b2 11 .lss 3 (tm 7) (tm 10) 3 4])
 (.cond (tm 11) .skip
 (.exit 0)))
 (.seq (.keep [1, 3])
 (.seq (.block 1 (.seq (.reg [fa 14 10 (tm 1),
 l1 15 (tm 14),
 mo 16 (tm 3),
 is 17 13 (tm 15) (tm 16),
 l2 18 13 (tm 17),
 oo 19 (.build [(.int .u8 0), (.int .u64 0), (.int .u8 0), (.int .u64 0), (.int .u64 0), (.int .u8 0), (.int .u8 0), (.int .u8 0), (.int .u8 0), (.int .u8 0), (.int .u8 0), (.int .u8 0), (.int .u8 0), (.int .u8 0), (.int .u8 0), (.string ⟨#[]⟩)] [(0, 1, (kb 3)), (3, 13, (tm 18))]),
 ca 20 66 [(tm 19)],
 u1 21 .not 4 (tm 20) 4])
 (.seq (.keep [1, 3, 21])
 (.cond (tm 21) (.seq (.reg [mo 2 (kB false)])
 .ret)
 .skip))))
 (.seq (.keep [1, 3])
 (.reg [mo 12 (tm 3),
 b2 13 .add 3 (tm 12) (ki 1) 3 3,
 mo 3 (tm 13)]))))))

def lf43 : LFunc := ⟨1, [.tmp 2],
 (.seq (.reg [oo 1 (.box (tm 0)),
 mo 2 (kB false)])
 (.seq (.seq (.reg [mo 3 (ki 0)])
 (.block 0 lp43x1))
 (.seq (.keep [1])
 (.seq (.reg [fa 22 2 (tm 1),
 fa 23 0 (tm 22),
 l1 24 (tm 23),
 mo 4 (tm 24)])
 (.seq (.reg [fa 25 2 (tm 1),
 fa 26 1 (tm 25),
 l1 27 (tm 26),
 mo 5 (tm 27)])
 (.seq (.seq (.reg [mo 6 (ki 0)])
 (.block 2 lp43x0))
 (.seq (.keep [])
 (.seq (.reg [mo 2 (kB true)])
 .ret))))))))⟩

def lf44 : LFunc := ⟨1, [.ldn 2 11],
 (.seq (.reg [oo 1 (.box (tm 0)),
 oo 2 (.alloc [(.int .u64 0), (.int .u8 0), (.int .u64 0), (.int .u64 0), (.int .u8 0), (.string ⟨#[]⟩), (.string ⟨#[]⟩), (.string ⟨#[]⟩), (.string ⟨#[]⟩), (.string ⟨#[]⟩), (.slice none 0 0)])])
 (.seq (.reg [fa 3 0 (tm 1),
 l1 4 (tm 3),
 fa 5 1 (tm 1),
 l1 6 (tm 5),
 fa 7 2 (tm 1),
 l2 8 8 (tm 7),
 fa 9 10 (tm 1),
 l1 10 (tm 9),
 oo 11 (.build [(.int .u64 0), (.int .u8 0), (.int .u64 0), (.int .u64 0), (.int .u8 0), (.string ⟨#[]⟩), (.string ⟨#[]⟩), (.string ⟨#[]⟩), (.string ⟨#[]⟩), (.string ⟨#[]⟩), (.slice none 0 0)] [(0, 1, (tm 4)), (1, 1, (tm 6)), (2, 8, (tm 8)), (10, 1, (tm 10))]),
 sr 11 (tm 2) (tm 11)])
 (.seq (.keep [2])
 .ret)))⟩

def lf45 : LFunc := ⟨0, [.tmp 0],
 (.seq (.reg [mo 0 (kB false)])
 (.seq (.reg [ca 10 18 [],
 mo 1 (tm 10)])
 (.seq (.reg [ca 11 19 [],
 oo 2 (.alloc [(.int .u32 0), (.int .u32 0), (.int .u32 0), (.int .u32 0), (.int .u32 0), (.int .u32 0), (.int .u32 0), (.int .u32 0), (.int .u32 0), (.int .u32 0), (.int .u32 0), (.int .u32 0), (.int .u32 0), (.int .u32 0), (.int .u32 0), (.int .u32 0), (.int .u32 0), (.int .u32 0), (.int .u32 0), (.int .u32 0), (.int .u32 0), (.int .u32 0), (.int .u32 0), (.int .u32 0), (.int .u32 0), (.int .u32 0), (.int .u32 0), (.int .u32 0), (.int .u32 0), (.int .u32 0), (.int .u32 0), (.int .u32 0), (.int .u32 0), (.int .u32 0), (.int .u32 0), (.int .u32 0), (.int .u32 0), (.int .u32 0), (.int .u32 0), (.int .u32 0), (.int .u32 0), (.int .u32 0), (.int .u32 0), (.int .u32 0), (.int .u32 0), (.int .u32 0), (.int .u32 0), (.int .u32 0), (.int .u32 0), (.int .u32 0), (.int .u32 0), (.int .u32 0), (.int .u32 0), (.int .u32 0), (.int .u32 0), (.int .u32 0), (.int .u32 0), (.int .u32 0), (.int .u32 0), (.int .u32 0), (.int .u32 0), (.int .u32 0), (.int .u32 0), (.int .u32 0), (.int .u32 0), (.int .u32 0), (.int .u32 0), (.int .u32 0), (.int .u32 0), (.int .u32 0), (.int .u32 0), (.int .u32 0), (.int .u32 0), (.int .u32 0), (.int .u32 0), (.int .u32 0), (.int .u32 0), (.int .u32 0), (.int .u32 0), (.int .u32 0), (.int .u32 0), (.int .u32 0), (.int .u32 0), (.int .u32 0), (.int .u32 0), (.int .u32 0), (.int .u32 0), (.int .u32 0), (.int .u32 0), (.int .u32 0), (.int .u32 0), (.int .u32 0), (.int .u32 0), (.int .u32 0), (.int .u32 0), (.int .u32 0), (.int .u32 0), (.int .u32 0), (.int .u32 0), (.int .u32 0), (.int .u32 0), (.int .u32 0), (.int .u32 0), (.int .u32 0), (.int .u32 0), (.int .u32 0), (.int .u32 0), (.int .u32 0), (.int .u32 0), (.int .u32 0), (.int .u32 0), (.int .u32 0), (.int .u32 0), (.int .u32 0), (.int .u32 0), (.int .u32 0), (.int .u32 0), (.int .u32 0), (.int .u32 0), (.int .u32 0), (.int .u32 0), (.int .u32 0), (.int .u32 0), (.int .u32 0), (.int .u32 0), (.int .u32 0), (.int .u32 0), (.int .u32 0), (.int .u32 0), (.int .u32 0), (.int .u32 0), (.int .u32 0), (.int .u32 0), (.int .u32 0), (.int .u32 0), (.int .u32 0), (.int .u32 0), (.int .u32 0), (.int .u32 0), (.int .u32 0), (.int .u32 0), (.int .u32 0), (.int .u32 0), (.int .u32 0), (.int .u32 0), (.int .u32 0), (.int .u32 0), (.int .u32 0), (.int .u32 0), (.int .u32 0), (.int .u32 0), (.int .u32 0), (.int .u32 0), (.int .u32 0), (.int .u32 0), (.int .u32 0), (.int .u32 0), (.int .u32 0), (.int .u32 0), (.int .u32 0), (.int .u32 0), (.int .u32 0), (.int .u32 0), (.int .u32 0), (.int .u32 0), (.int .u32 0), (.int .u32 0), (.int .u32 0), (.int .u32 0), (.int .u32 0), (.int .u32 0), (.int .u32 0), (.int .u32 0), (.int .u32 0), (.int .u32 0), (.int .u32 0), (.int .u32 0), (.int .u32 0), (.int .u32 0), (.int .u32 0), (.int .u32 0), (.int .u32 0), (.int .u32 0), (.int .u32 0), (.int .u32 0), (.int .u32 0), (.int .u32 0), (.int .u32 0), (.int .u32 0), (.int .u32 0), (.int .u32 0), (.int .u32 0), (.int .u32 0), (.int .u32 0), (.int .u32 0), (.int .u32 0), (.int .u32 0), (.int .u32 0), (.int .u32 0), (.int .u32 0), (.int .u32 0), (.int .u32 0), (.int .u32 0), (.int .u32 0), (.int .u32 0), (.int .u32 0), (.int .u32 0), (.int .u32 0), (.int .u32 0), (.int .u32 0), (.int .u32 0), (.int .u32 0), (.int .u32 0), (.int .u32 0), (.int .u32 0), (.int .u32 0), (.int .u32 0), (.int .u32 0), (.int .u32 0), (.int .u32 0), (.int .u32 0), (.int .u32 0), (.int .u32 0), (.int .u32 0), (.int .u32 0), (.int .u32 0), (.int .u32 0), (.int .u32 0), (.int .u32 0), (.int .u32 0), (.int .u32 0), (.int .u32 0), (.int .u32 0), (.int .u32 0), (.int .u32 0), (.int .u32 0), (.int .u32 0), (.int .u32 0), (.int .u32 0), (.int .u32 0), (.int .u32 0), (.int .u32 0), (.int .u32 0), (.int .u32 0), (.int .u32 0), (.int .u32 0), (.int .u32 0), (.int .u32 0), (.int .u32 0), (.int .u32 0), (.int .u32 0), (.int .u32 0), (.int .u32 0), (.int .u32 0), (.int .u32 0), (.int .u32 0)]),
 sr 256 (tm 2) (tm 11)])
 (.seq (.reg [mo 13 (tm 1),
 ca 14 53 [(tm 13), (tm 2)],
 mo 12 (tm 14),
 ex 15 (tm 12) 0,
 ex 16 (tm 12) 1,
 ex 17 (tm 12) 2,
 oo 4 (.alloc [(.int .u64 0), (.int .u8 0), (.int .u64 0), (.int .u64 0), (.int .u8 0), (.string ⟨#[]⟩), (.string ⟨#[]⟩), (.string ⟨#[]⟩), (.string ⟨#[]⟩), (.string ⟨#[]⟩), (.slice none 0 0)]),
 mo 3 (tm 15),
 sr 11 (tm 4) (tm 16),
 mo 5 (tm 17)])
 (.seq (.keep [1, 2, 3, 4, 5])
 (.seq (.seq (.reg [mo 18 (tm 5),
 b2 19 .neq 39 (tm 18) (ki 0) 39 4,
 mo 20 (tm 19),
 ⟨(some 21), (some (20, false)), .mv (tm 3)⟩,
 ⟨(some 22), (some (20, false)), .cmpref 0 false (tm 21) (.const (.pointer none))⟩,
 oo 23 (.pick (tm 20) (kB true) (tm 22)),
 mo 24 (tm 23),
 ⟨(some 25), (some (24, false)), .fadr 10 (tm 4)⟩,
 ⟨(some 26), (some (24, false)), .ld1 (tm 25)⟩,
 ⟨(some 27), (some (24, false)), .len false (tm 26)⟩,
 ⟨(some 28), (some (24, false)), .prim ⟨none, (.binOp .neq 3 (tm 27) (ki 0) 3), 4, "", #[], none⟩⟩,
 oo 29 (.pick (tm 24) (kB true) (tm 28)),
 mo 30 (tm 29),
 ⟨(some 31), (some (30, false)), .fadr 0 (tm 4)⟩,
 ⟨(some 32), (some (30, false)), .ld1 (tm 31)⟩,
 ⟨(some 33), (some (30, false)), .prim ⟨none, (.binOp .neq 22 (tm 32) (ku 0) 22), 4, "", #[], none⟩⟩,
 oo 34 (.pick (tm 30) (kB true) (tm 33))])
 (.seq (.keep [1, 2, 3, 4, 34])
 (.cond (tm 34) (.seq (.reg [mo 0 (kB false)])
 .ret)
 .skip)))
 (.seq (.keep [1, 2, 3, 4])
 (.seq (.reg [mo 35 (tm 3),
 ca 36 62 [(ku 1), (kb 2)],
 ca 37 63 [(ku 1), (ku 1)],
 ca 38 63 [(ku 2), (ku 1)],
 oo 39 (.bslice 16 3 [(.int .u8 0), (.int .u64 0), (.int .u8 0), (.int .u64 0), (.int .u64 0), (.int .u8 0), (.int .u8 0), (.int .u8 0), (.int .u8 0), (.int .u8 0), (.int .u8 0), (.int .u8 0), (.int .u8 0), (.int .u8 0), (.int .u8 0), (.string ⟨#[]⟩)] [(0, 16, (tm 36)), (16, 16, (tm 37)), (32, 16, (tm 38))]),
 ca 40 58 [(tm 35), (tm 39)],
 mo 6 (tm 40)])
 (.seq (.reg [mo 41 (tm 3),
 ca 42 65 [(ku 1), (ku 1)],
 ca 43 59 [(tm 41), (tm 42)],
 mo 7 (tm 43)])
 (.seq (.reg [mo 44 (tm 1),
 oo 45 (.build [(.slice none 0 0), (.slice none 0 0)] []),
 ca 46 24 [(tm 44), (tm 45)]])
 (.seq (.reg [mo 47 (tm 1),
 ca 48 25 [(tm 47)]])
 (.seq (.reg [mo 50 (tm 1),
 ca 51 53 [(tm 50), (tm 2)],
 mo 49 (tm 51),
 ex 52 (tm 49) 0,
 ex 53 (tm 49) 1,
 ex 54 (tm 49) 2,
 mo 8 (tm 52),
 sr 11 (tm 4) (tm 53),
 mo 9 (tm 54)])
 (.seq (.keep [4, 6, 7, 9])
 (.seq (.dreg [mo 55 (tm 6),
 b2 56 .eql 39 (tm 55) (ki 0) 39 4,
 mo 57 (tm 56),
 ⟨(some 58), (some (57, true)), .mv (tm 7)⟩,
 ⟨(some 59), (some (57, true)), .prim ⟨none, (.binOp .eql 39 (tm 58) (ki 0) 39), 4, "", #[], none⟩⟩,
 oo 60 (.pick (tm 57) (tm 59) (kB false)),
 mo 61 (tm 60),
 ⟨(some 62), (some (61, true)), .mv (tm 9)⟩,
 ⟨(some 63), (some (61, true)), .prim ⟨none, (.binOp .eql 39 (tm 62) (ki 0) 39), 4, "", #[], none⟩⟩,
 oo 64 (.pick (tm 61) (tm 63) (kB false)),
 mo 65 (tm 64),
 ⟨(some 66), (some (65, true)), .fadr 0 (tm 4)⟩,
 ⟨(some 67), (some (65, true)), .ld1 (tm 66)⟩,
 ⟨(some 68), (some (65, true)), .prim ⟨none, (.binOp .eql 22 (tm 67) (ku 1) 22), 4, "", #[], none⟩⟩,
 oo 69 (.pick (tm 65) (tm 68) (kB false)),
 mo 70 (tm 69),
 ⟨(some 71), (some (70, true)), .fadr 1 (tm 4)⟩,
 ⟨(some 72), (some (70, true)), .ld1 (tm 71)⟩,
 ⟨(some 73), (some (70, true)), .prim ⟨none, (.binOp .eql 5 (tm 72) (kb 2) 5), 4, "", #[], none⟩⟩,
 oo 74 (.pick (tm 70) (tm 73) (kB false)),
 mo 75 (tm 74),
 ⟨(some 76), (some (75, true)), .fadr 2 (tm 4)⟩,
 ⟨(some 77), (some (75, true)), .ldn 8 (tm 76)⟩,
 ⟨(some 78), (some (75, true)), .call 65 [(ku 1), (ku 1)]⟩,
 ⟨(some 79), (some (75, true)), .prim ⟨none, (.binOp .eql 92 (tm 77) (tm 78) 92), 4, "", #[], none⟩⟩,
 oo 80 (.pick (tm 75) (tm 79) (kB false)),
 mo 81 (tm 80),
 ⟨(some 82), (some (81, true)), .fadr 10 (tm 4)⟩,
 ⟨(some 83), (some (81, true)), .ld1 (tm 82)⟩,
 ⟨(some 84), (some (81, true)), .len false (tm 83)⟩,
 ⟨(some 85), (some (81, true)), .prim ⟨none, (.binOp .eql 3 (tm 84) (ki 1) 3), 4, "", #[], none⟩⟩,
 oo 86 (.pick (tm 81) (tm 85) (kB false)),
 mo 87 (tm 86),
 ⟨(some 88), (some (87, true)), .fadr 10 (tm 4)⟩,
 ⟨(some 89), (some (87, true)), .ld1 (tm 88)⟩,
 ⟨(some 90), (some (87, true)), .iadrs 13 (tm 89) (ki 0)⟩,
 ⟨(some 91), (some (87, true)), .fadr 0 (tm 90)⟩,
 ⟨(some 92), (some (87, true)), .ld1 (tm 91)⟩,
 ⟨(some 93), (some (87, true)), .prim ⟨none, (.binOp .eql 22 (tm 92) (ku 2) 22), 4, "", #[], none⟩⟩,
 oo 94 (.pick (tm 87) (tm 93) (kB false)),
 mo 0 (tm 94)] [(22, 0, 1)])
 (.seq (.keep [0])
 .ret)))))))))))))))⟩

def lp46x0 : LCode := .loop (.seq (.keep [2, 4, 11, 12, 13])
 (.seq (.reg [b2 14 .lss 3 (tm 13) (tm 12) 3 0])
 (.seq (.cond (tm 14) .skip
 (.exit 0))
 (.seq (.keep [2, 4, 11, 12, 13])
 (.seq (.block 1 (.seq (.reg [is 15 16 (tm 11) (tm 13),
 l2 16 16 (tm 15),
 oo 7 (.alloc [(.int .u8 0), (.int .u64 0), (.int .u8 0), (.int .u64 0), (.int .u64 0), (.int .u8 0), (.int .u8 0), (.int .u8 0), (.int .u8 0), (.int .u8 0), (.int .u8 0), (.int .u8 0), (.int .u8 0), (.int .u8 0), (.int .u8 0), (.string ⟨#[]⟩)]),
 sr 16 (tm 7) (tm 16)])
 (.seq (.reg [mo 8 (kB true)])
 (.seq (.block 2 (.seq (.reg [fa 18 0 (tm 7),
 l1 19 (tm 18),
 b2 20 .eql 5 (tm 19) (kb 2) 5 4,
 mo 21 (tm 20),
 ⟨(some 22), (some (21, true)), .fadr 3 (tm 7)⟩,
 ⟨(some 23), (some (21, true)), .ldn 13 (tm 22)⟩,
 ⟨(some 24), (some (21, true)), .build [(.int .u64 0), (.int .u64 0), (.int .u8 0), (.int .u8 0), (.int .u8 0), (.int .u8 0), (.int .u8 0), (.int .u8 0), (.int .u8 0), (.int .u8 0), (.int .u8 0), (.int .u8 0), (.string ⟨#[]⟩)] []⟩,
 ⟨(some 25), (some (21, true)), .prim ⟨none, (.binOp .eql 54 (tm 23) (tm 24) 54), 4, "", #[], none⟩⟩,
 oo 26 (.pick (tm 21) (tm 25) (kB false)),
 mo 17 (tm 26)])
 (.seq (.keep [2, 4, 7, 8, 11, 12, 13, 17])
 (.cond (tm 17) (.dreg [fa 27 1 (tm 7),
 l1 28 (tm 27),
 fa 29 2 (tm 7),
 l1 30 (tm 29),
 fa 31 0 (tm 2),
 sr 1 (tm 31) (tm 28),
 fa 32 1 (tm 2),
 sr 1 (tm 32) (tm 30)] [(3, 0, 1)])
 (.seq (.reg [fa 34 0 (tm 7),
 l1 35 (tm 34),
 b2 36 .eql 5 (tm 35) (kb 3) 5 4,
 mo 37 (tm 36),
 ⟨(some 38), (some (37, true)), .fadr 1 (tm 7)⟩,
 ⟨(some 39), (some (37, true)), .ld1 (tm 38)⟩,
 ⟨(some 40), (some (37, true)), .prim ⟨none, (.binOp .eql 22 (tm 39) (ku 0) 22), 4, "", #[], none⟩⟩,
 oo 41 (.pick (tm 37) (tm 40) (kB false)),
 mo 42 (tm 41),
 ⟨(some 43), (some (42, true)), .fadr 2 (tm 7)⟩,
 ⟨(some 44), (some (42, true)), .ld1 (tm 43)⟩,
 ⟨(some 45), (some (42, true)), .prim ⟨none, (.binOp .eql 5 (tm 44) (kb 0) 5), 4, "", #[], none⟩⟩,
 oo 46 (.pick (tm 42) (tm 45) (kB false)),
 mo 33 (tm 46)])
 (.seq (.keep [2, 4, 7, 11, 12, 13, 33])
 (.cond (tm 33) (.reg [l2 48 11 (tm 2),
 fa 49 3 (tm 7),
 l2 50 13 (tm 49),
 ca 51 93 [(tm 48), (tm 50)],
 mo 47 (tm 51),
 ex 52 (tm 47) 0,
 ex 53 (tm 47) 1,
 sr 11 (tm 2) (tm 52),
 mo 8 (tm 53)])
 (.reg [mo 8 (kB false)]))))))))
 (.seq (.keep [2, 4, 8, 11, 12, 13])
 (.seq (.reg [mo 54 (tm 8),
 u1 55 .not 4 (tm 54) 4])
 (.cond (tm 55) (.seq (.reg [oo 56 (.build [(.int .u64 0), (.int .u8 0), (.int .u64 0), (.int .u64 0), (.int .u8 0), (.string ⟨#[]⟩), (.string ⟨#[]⟩), (.string ⟨#[]⟩), (.string ⟨#[]⟩), (.string ⟨#[]⟩), (.slice none 0 0)] []),
 sr 11 (tm 4) (tm 56),
 mo 5 (ki 1)])
 .ret)
 .skip)))))))
 (.seq (.keep [2, 4, 11, 12, 13])
 (.reg [b2 57 .add 3 (tm 13) (ki 1) 3 3,
 mo 13 (tm 57)])))))))

def lf46 : LFunc := ⟨2, [.ldn 4 11, .tmp 5],
 (.seq (.reg [oo 2 (.box (tm 0)),
 oo 4 (.alloc [(.int .u64 0), (.int .u8 0), (.int .u64 0), (.int .u64 0), (.int .u8 0), (.string ⟨#[]⟩), (.string ⟨#[]⟩), (.string ⟨#[]⟩), (.string ⟨#[]⟩), (.string ⟨#[]⟩), (.slice none 0 0)]),
 mo 5 (ki 0)])
 (.seq (.reg [l2 9 11 (tm 2),
 ca 10 92 [(tm 9)],
 sr 11 (tm 2) (tm 10)])
 (.seq (.seq (.reg [mo 11 (tm 1),
 le 12 false (tm 11),
 mo 13 (ki 0)])
 (.block 0 lp46x0))
 (.seq (.keep [2, 4])
 (.seq (.reg [l2 58 11 (tm 2),
 sr 11 (tm 4) (tm 58),
 mo 5 (ki 0)])
 .ret)))))⟩

def lp47x0 : LCode := .loop (.seq (.keep [1, 2, 4, 6])
 (.seq (.seq (.reg [mo 8 (tm 6),
 mo 9 (tm 1),
 le 10 false (tm 9),
 b2 11 .lss 3 (tm 8) (tm 10) 3 4])
 (.cond (tm 11) .skip
 (.exit 0)))
 (.seq (.keep [1, 2, 4, 6])
 (.seq (.block 1 (.seq (.reg [mo 7 (kB false)])
 (.seq (.dreg [l2 15 11 (tm 2),
 mo 16 (tm 1),
 mo 17 (tm 6),
 is 18 16 (tm 16) (tm 17),
 l2 19 16 (tm 18),
 ca 20 94 [(tm 15), (tm 19)],
 mo 14 (tm 20),
 ex 21 (tm 14) 0,
 ex 22 (tm 14) 1,
 sr 11 (tm 2) (tm 21),
 mo 7 (tm 22)] [])
 (.seq (.keep [1, 2, 4, 6, 7])
 (.seq (.reg [mo 23 (tm 7),
 u1 24 .not 4 (tm 23) 4])
 (.cond (tm 24) (.seq (.reg [oo 25 (.build [(.int .u64 0), (.int .u8 0), (.int .u64 0), (.int .u64 0), (.int .u8 0), (.string ⟨#[]⟩), (.string ⟨#[]⟩), (.string ⟨#[]⟩), (.string ⟨#[]⟩), (.string ⟨#[]⟩), (.slice none 0 0)] []),
 sr 11 (tm 4) (tm 25),
 mo 5 (ki 1)])
 .ret)
 .skip))))))
 (.seq (.keep [1, 2, 4, 6])
 (.reg [mo 12 (tm 6),
 b2 13 .add 3 (tm 12) (ki 1) 3 3,
 mo 6 (tm 13)]))))))

def lf47 : LFunc := ⟨2, [.ldn 4 11, .tmp 5],
 (.seq (.reg [oo 2 (.box (tm 0)),
 oo 4 (.alloc [(.int .u64 0), (.int .u8 0), (.int .u64 0), (.int .u64 0), (.int .u8 0), (.string ⟨#[]⟩), (.string ⟨#[]⟩), (.string ⟨#[]⟩), (.string ⟨#[]⟩), (.string ⟨#[]⟩), (.slice none 0 0)]),
 mo 5 (ki 0)])
 (.seq (.seq (.reg [mo 6 (ki 0)])
 (.block 0 lp47x0))
 (.seq (.keep [2, 4])
 (.seq (.reg [l2 26 11 (tm 2),
 sr 11 (tm 4) (tm 26),
 mo 5 (ki 0)])
 .ret))))⟩

def lf48 : LFunc := ⟨2, [.ldn 4 11, .tmp 5],
 (.seq (.reg [oo 2 (.box (tm 0)),
 oo 3 (.box (tm 1)),
 oo 4 (.alloc [(.int .u64 0), (.int .u8 0), (.int .u64 0), (.int .u64 0), (.int .u8 0), (.string ⟨#[]⟩), (.string ⟨#[]⟩), (.string ⟨#[]⟩), (.string ⟨#[]⟩), (.string ⟨#[]⟩), (.slice none 0 0)]),
 mo 5 (ki 0)])
 (.seq (.seq (.reg [fa 8 0 (tm 3),
 l1 9 (tm 8),
 fa 10 2 (tm 2),
 fa 11 0 (tm 10),
 l1 12 (tm 11),
 b2 13 .leq 22 (tm 9) (tm 12) 22 4])
 (.cond (tm 13) (.seq (.reg [oo 14 (.build [(.int .u64 0), (.int .u8 0), (.int .u64 0), (.int .u64 0), (.int .u8 0), (.string ⟨#[]⟩), (.string ⟨#[]⟩), (.string ⟨#[]⟩), (.string ⟨#[]⟩), (.string ⟨#[]⟩), (.slice none 0 0)] []),
 sr 11 (tm 4) (tm 14),
 mo 5 (ki 10)])
 .ret)
 .skip))
 (.seq (.keep [2, 3, 4])
 (.seq (.reg [mo 6 (.const (.slice none 0 0))])
 (.seq (.seq (.reg [fa 15 0 (tm 3),
 l1 16 (tm 15),
 fa 17 2 (tm 2),
 fa 18 0 (tm 17),
 l1 19 (tm 18),
 b2 20 .sub 22 (tm 16) (tm 19) 22 22,
 mo 7 (tm 20)])
 (.seq (.dreg [mo 21 (tm 7),
 fa 22 10 (tm 2),
 l1 23 (tm 22),
 le 24 false (tm 23),
 cv 25 3 22 (tm 24) 22,
 b2 26 .leq 22 (tm 21) (tm 25) 22 4,
 mo 27 (tm 26),
 ⟨(some 28), (some (27, true)), .fadr 10 (tm 2)⟩,
 ⟨(some 29), (some (27, true)), .ld1 (tm 28)⟩,
 ⟨(some 30), (some (27, true)), .mv (tm 7)⟩,
 ⟨(some 31), (some (27, true)), .prim ⟨none, (.binOp .sub 22 (tm 30) (ku 1) 22), 22, "", #[], none⟩⟩,
 ⟨(some 32), (some (27, true)), .iadrs 13 (tm 29) (tm 31)⟩,
 ⟨(some 33), (some (27, true)), .fadr 1 (tm 32)⟩,
 ⟨(some 34), (some (27, true)), .ld1 (tm 33)⟩,
 ⟨(some 35), (some (27, true)), .fadr 1 (tm 3)⟩,
 ⟨(some 36), (some (27, true)), .ld1 (tm 35)⟩,
 ⟨(some 37), (some (27, true)), .prim ⟨none, (.binOp .eql 22 (tm 34) (tm 36) 22), 4, "", #[], none⟩⟩,
 oo 38 (.pick (tm 27) (tm 37) (kB false))] [])
 (.seq (.keep [2, 3, 4, 6, 7, 38])
 (.cond (tm 38) (.reg [fa 39 10 (tm 2),
 l1 40 (tm 39),
 mo 41 (tm 7),
 oo 42 (.slcl 13 (tm 40) (some (tm 41)) none none),
 ca 43 95 [(tm 42)],
 mo 6 (tm 43)])
 .skip))))
 (.seq (.keep [2, 3, 4, 6])
 (.seq (.reg [l2 44 8 (tm 3),
 mo 45 (tm 6),
 fa 46 2 (tm 2),
 sr 8 (tm 46) (tm 44),
 fa 47 10 (tm 2),
 sr 1 (tm 47) (tm 45)])
 (.seq (.reg [l2 48 11 (tm 2),
 sr 11 (tm 4) (tm 48),
 mo 5 (ki 0)])
 .ret))))))))⟩

def lp49x0 : LCode := .loop (.seq (.keep [2, 3, 4, 6, 7, 8])
 (.seq (.seq (.reg [mo 22 (tm 8),
 fa 23 10 (tm 2),
 l1 24 (tm 23),
 le 25 false (tm 24),
 b2 26 .lss 3 (tm 22) (tm 25) 3 4])
 (.cond (tm 26) .skip
 (.exit 0)))
 (.seq (.keep [2, 3, 4, 6, 7, 8])
 (.seq (.block 1 (.seq (.seq (.dreg [fa 29 10 (tm 2),
 l1 30 (tm 29),
 mo 31 (tm 8),
 is 32 13 (tm 30) (tm 31),
 fa 33 0 (tm 32),
 l1 34 (tm 33),
 fa 35 0 (tm 3),
 l1 36 (tm 35),
 b2 37 .eql 22 (tm 34) (tm 36) 22 4] [])
 (.seq (.keep [2, 3, 4, 6, 7, 8, 37])
 (.cond (tm 37) (.dreg [fa 38 10 (tm 2),
 l1 39 (tm 38),
 mo 40 (tm 8),
 is 41 13 (tm 39) (tm 40),
 fa 42 1 (tm 41),
 l1 43 (tm 42),
 fa 44 1 (tm 3),
 l1 45 (tm 44),
 b2 46 .eql 22 (tm 43) (tm 45) 22 4,
 mo 7 (tm 46)] [])
 .skip)))
 (.seq (.keep [2, 3, 4, 6, 7, 8])
 (.seq (.dreg [mo 47 (tm 7),
 mo 48 (tm 47),
 ⟨(some 49), (some (48, true)), .fadr 10 (tm 2)⟩,
 ⟨(some 50), (some (48, true)), .ld1 (tm 49)⟩,
 ⟨(some 51), (some (48, true)), .mv (tm 8)⟩,
 ⟨(some 52), (some (48, true)), .iadrs 13 (tm 50) (tm 51)⟩,
 ⟨(some 53), (some (48, true)), .fadr 0 (tm 52)⟩,
 ⟨(some 54), (some (48, true)), .ld1 (tm 53)⟩,
 ⟨(some 55), (some (48, true)), .fadr 0 (tm 3)⟩,
 ⟨(some 56), (some (48, true)), .ld1 (tm 55)⟩,
 ⟨(some 57), (some (48, true)), .prim ⟨none, (.binOp .gtr 22 (tm 54) (tm 56) 22), 4, "", #[], none⟩⟩,
 oo 58 (.pick (tm 48) (tm 57) (kB false))] [])
 (.seq (.keep [2, 3, 4, 6, 7, 8, 58])
 (.cond (tm 58) (.dreg [fa 59 10 (tm 6),
 l1 60 (tm 59),
 fa 61 10 (tm 2),
 l1 62 (tm 61),
 mo 63 (tm 8),
 is 64 13 (tm 62) (tm 63),
 l2 65 13 (tm 64),
 oo 66 (.bslice 13 1 [(.int .u64 0), (.int .u64 0), (.int .u8 0), (.int .u8 0), (.int .u8 0), (.int .u8 0), (.int .u8 0), (.int .u8 0), (.int .u8 0), (.int .u8 0), (.int .u8 0), (.int .u8 0), (.string ⟨#[]⟩)] [(0, 13, (tm 65))]),
 ap 67 13 48 (tm 60) (tm 66),
 fa 68 10 (tm 6),
 sr 1 (tm 68) (tm 67)] [])
 .skip))))))
 (.seq (.keep [2, 3, 4, 6, 7, 8])
 (.reg [mo 27 (tm 8),
 b2 28 .add 3 (tm 27) (ki 1) 3 3,
 mo 8 (tm 28)]))))))

def lf49 : LFunc := ⟨2, [.ldn 4 11, .tmp 5],
 (.seq (.reg [oo 2 (.box (tm 0)),
 oo 3 (.box (tm 1)),
 oo 4 (.alloc [(.int .u64 0), (.int .u8 0), (.int .u64 0), (.int .u64 0), (.int .u8 0), (.string ⟨#[]⟩), (.string ⟨#[]⟩), (.string ⟨#[]⟩), (.string ⟨#[]⟩), (.string ⟨#[]⟩), (.slice none 0 0)]),
 mo 5 (ki 0)])
 (.seq (.seq (.reg [fa 9 0 (tm 3),
 l1 10 (tm 9),
 fa 11 2 (tm 2),
 fa 12 0 (tm 11),
 l1 13 (tm 12),
 b2 14 .leq 22 (tm 10) (tm 13) 22 4])
 (.cond (tm 14) (.seq (.reg [oo 15 (.build [(.int .u64 0), (.int .u8 0), (.int .u64 0), (.int .u64 0), (.int .u8 0), (.string ⟨#[]⟩), (.string ⟨#[]⟩), (.string ⟨#[]⟩), (.string ⟨#[]⟩), (.string ⟨#[]⟩), (.slice none 0 0)] []),
 sr 11 (tm 4) (tm 15),
 mo 5 (ki 10)])
 .ret)
 .skip))
 (.seq (.keep [2, 3, 4])
 (.seq (.reg [fa 16 0 (tm 2),
 l1 17 (tm 16),
 fa 18 1 (tm 2),
 l1 19 (tm 18),
 l2 20 8 (tm 3),
 oo 21 (.build [(.int .u64 0), (.int .u8 0), (.int .u64 0), (.int .u64 0), (.int .u8 0), (.string ⟨#[]⟩), (.string ⟨#[]⟩), (.string ⟨#[]⟩), (.string ⟨#[]⟩), (.string ⟨#[]⟩), (.slice none 0 0)] [(0, 1, (tm 17)), (1, 1, (tm 19)), (2, 8, (tm 20))]),
 oo 6 (.alloc [(.int .u64 0), (.int .u8 0), (.int .u64 0), (.int .u64 0), (.int .u8 0), (.string ⟨#[]⟩), (.string ⟨#[]⟩), (.string ⟨#[]⟩), (.string ⟨#[]⟩), (.string ⟨#[]⟩), (.slice none 0 0)]),
 sr 11 (tm 6) (tm 21)])
 (.seq (.keep [2, 3, 4, 6])
 (.seq (.reg [mo 7 (kB false)])
 (.seq (.seq (.reg [mo 8 (ki 0)])
 (.block 0 lp49x0))
 (.seq (.keep [4, 6])
 (.seq (.reg [l2 69 11 (tm 6),
 sr 11 (tm 4) (tm 69),
 mo 5 (ki 0)])
 .ret)))))))))⟩

def lp50x0 : LCode := .loop (.seq (.keep [2, 3, 5])
 (.seq (.seq (.reg [mo 13 (tm 5),
 fa 14 10 (tm 2),
 l1 15 (tm 14),
 le 16 false (tm 15),
 b2 17 .lss 3 (tm 13) (tm 16) 3 4])
 (.cond (tm 17) .skip
 (.exit 0)))
 (.seq (.keep [2, 3, 5])
 (.seq (.block 1 (.seq (.dreg [fa 20 10 (tm 2),
 l1 21 (tm 20),
 mo 22 (tm 5),
 is 23 13 (tm 21) (tm 22),
 l2 24 13 (tm 23),
 fa 25 10 (tm 3),
 l1 26 (tm 25),
 mo 27 (tm 5),
 is 28 13 (tm 26) (tm 27),
 l2 29 13 (tm 28),
 b2 30 .neq 54 (tm 24) (tm 29) 54 4] [])
 (.seq (.keep [2, 3, 5, 30])
 (.cond (tm 30) (.seq (.reg [mo 4 (kB false)])
 .ret)
 .skip))))
 (.seq (.keep [2, 3, 5])
 (.reg [mo 18 (tm 5),
 b2 19 .add 3 (tm 18) (ki 1) 3 3,
 mo 5 (tm 19)]))))))

def lf50 : LFunc := ⟨2, [.tmp 4],
 (.seq (.reg [oo 2 (.box (tm 0)),
 oo 3 (.box (tm 1)),
 mo 4 (kB false)])
 (.seq (.seq (.reg [fa 6 10 (tm 2),
 l1 7 (tm 6),
 le 8 false (tm 7),
 fa 9 10 (tm 3),
 l1 10 (tm 9),
 le 11 false (tm 10),
 b2 12 .neq 3 (tm 8) (tm 11) 3 4])
 (.cond (tm 12) (.seq (.reg [mo 4 (kB false)])
 .ret)
 .skip))
 (.seq (.keep [2, 3])
 (.seq (.seq (.reg [mo 5 (ki 0)])
 (.block 0 lp50x0))
 (.seq (.keep [2, 3])
 (.seq (.reg [fa 31 0 (tm 2),
 l1 32 (tm 31),
 fa 33 0 (tm 3),
 l1 34 (tm 33),
 b2 35 .eql 22 (tm 32) (tm 34) 22 4,
 mo 36 (tm 35),
 ⟨(some 37), (some (36, true)), .fadr 1 (tm 2)⟩,
 ⟨(some 38), (some (36, true)), .ld1 (tm 37)⟩,
 ⟨(some 39), (some (36, true)), .fadr 1 (tm 3)⟩,
 ⟨(some 40), (some (36, true)), .ld1 (tm 39)⟩,
 ⟨(some 41), (some (36, true)), .prim ⟨none, (.binOp .eql 5 (tm 38) (tm 40) 5), 4, "", #[], none⟩⟩,
 oo 42 (.pick (tm 36) (tm 41) (kB false)),
 mo 43 (tm 42),
 ⟨(some 44), (some (43, true)), .fadr 2 (tm 2)⟩,
 ⟨(some 45), (some (43, true)), .ldn 8 (tm 44)⟩,
 ⟨(some 46), (some (43, true)), .fadr 2 (tm 3)⟩,
 ⟨(some 47), (some (43, true)), .ldn 8 (tm 46)⟩,
 ⟨(some 48), (some (43, true)), .prim ⟨none, (.binOp .eql 92 (tm 45) (tm 47) 92), 4, "", #[], none⟩⟩,
 oo 49 (.pick (tm 43) (tm 48) (kB false)),
 mo 4 (tm 49)])
 (.seq (.keep [4])
 .ret)))))))⟩

def lp51x0 : LCode := .loop (.seq (.keep [0, 3])
 (.seq (.seq (.reg [mo 7 (tm 3),
 mo 8 (tm 0),
 le 9 false (tm 8),
 b2 10 .lss 3 (tm 7) (tm 9) 3 4])
 (.cond (tm 10) .skip
 (.exit 0)))
 (.seq (.keep [0, 3])
 (.seq (.block 1 (.seq (.reg [mo 13 (tm 0),
 mo 14 (tm 3),
 is 15 10 (tm 13) (tm 14),
 fa 16 1 (tm 15),
 l1 17 (tm 16),
 ca 18 15 [(tm 17)],
 mo 19 (tm 18),
 ⟨(some 20), (some (19, false)), .mv (tm 0)⟩,
 ⟨(some 21), (some (19, false)), .mv (tm 3)⟩,
 ⟨(some 22), (some (19, false)), .iadrs 10 (tm 20) (tm 21)⟩,
 ⟨(some 23), (some (19, false)), .fadr 2 (tm 22)⟩,
 ⟨(some 24), (some (19, false)), .ldn 8 (tm 23)⟩,
 ⟨(some 25), (some (19, false)), .call 42 [(tm 24)]⟩,
 oo 26 (.pick (tm 19) (kB true) (tm 25))])
 (.seq (.keep [0, 3, 26])
 (.cond (tm 26) (.seq (.reg [mo 2 (kB true)])
 .ret)
 .skip))))
 (.seq (.keep [0, 3])
 (.reg [mo 11 (tm 3),
 b2 12 .add 3 (tm 11) (ki 1) 3 3,
 mo 3 (tm 12)]))))))

def lf51 : LFunc := ⟨1, [.tmp 2],
 (.seq (.reg [mo 2 (kB false)])
 (.seq (.seq (.reg [mo 4 (tm 0),
 le 5 false (tm 4),
 b2 6 .gtr 3 (tm 5) (ki 60) 3 4])
 (.cond (tm 6) (.seq (.reg [mo 2 (kB true)])
 .ret)
 .skip))
 (.seq (.keep [0])
 (.seq (.seq (.reg [mo 3 (ki 0)])
 (.block 0 lp51x0))
 (.seq (.keep [])
 (.seq (.reg [mo 2 (kB false)])
 .ret))))))⟩

def lf52 : LFunc := ⟨1, [.tmp 2],
 (.seq (.reg [oo 1 (.box (tm 0)),
 mo 2 (kB false)])
 (.seq (.reg [l2 3 2 (tm 1),
 ca 4 16 [(tm 3)],
 mo 2 (tm 4)])
 .ret))⟩

def lp53x0 : LCode := .loop (.seq (.keep [0, 5, 7, 8, 66, 67, 68])
 (.seq (.reg [b2 69 .lss 3 (tm 68) (tm 67) 3 0])
 (.seq (.cond (tm 69) .skip
 (.exit 3))
 (.seq (.keep [0, 5, 7, 8, 66, 67, 68])
 (.seq (.block 4 (.seq (.reg [is 70 1 (tm 66) (tm 68),
 l1 71 (tm 70),
 mo 15 (tm 71)])
 (.seq (.reg [mo 73 (tm 15),
 ca 74 29 [(tm 73)],
 mo 72 (tm 74),
 ex 75 (tm 72) 0,
 ex 76 (tm 72) 1,
 mo 16 (tm 75),
 mo 17 (tm 76)])
 (.seq (.reg [mo 78 (tm 15),
 ca 79 99 [(tm 78)],
 mo 77 (tm 79),
 ex 80 (tm 77) 0,
 ex 81 (tm 77) 1,
 mo 18 (tm 80),
 mo 19 (tm 81)])
 (.seq (.reg [mo 82 (tm 17),
 mo 83 (tm 82),
 ⟨(some 84), (some (83, true)), .mv (tm 15)⟩,
 ⟨(some 85), (some (83, true)), .mv (tm 8)⟩,
 ⟨(some 86), (some (83, true)), .call 31 [(tm 85)]⟩,
 ⟨(some 87), (some (83, true)), .prim ⟨none, (.binOp .neq 9 (tm 84) (tm 86) 9), 4, "", #[], none⟩⟩,
 oo 88 (.pick (tm 83) (tm 87) (kB false)),
 mo 89 (tm 88),
 ⟨(some 90), (some (89, false)), .mv (tm 19)⟩,
 ⟨(some 91), (some (89, false)), .mv (tm 90)⟩,
 ⟨(some 92), (some (91, true)), .mv (tm 18)⟩,
 ⟨(some 93), (some (91, true)), .mv (tm 7)⟩,
 ⟨(some 94), (some (91, true)), .nilck (tm 93)⟩,
 ⟨(some 95), (some (91, true)), .fadr 3 (tm 94)⟩,
 ⟨(some 96), (some (91, true)), .fadr 2 (tm 95)⟩,
 ⟨(some 97), (some (91, true)), .fadr 0 (tm 96)⟩,
 ⟨(some 98), (some (91, true)), .ld1 (tm 97)⟩,
 ⟨(some 99), (some (91, true)), .prim ⟨none, (.binOp .neq 22 (tm 92) (tm 98) 22), 4, "", #[], none⟩⟩,
 ⟨(some 100), (some (89, false)), .pick (tm 91) (tm 99) (kB false)⟩,
 oo 101 (.pick (tm 89) (kB true) (tm 100))])
 (.seq (.keep [0, 5, 7, 8, 15, 66, 67, 68, 101])
 (.cond (tm 101) (.seq (.reg [mo 102 (tm 0),
 mo 103 (tm 15),
 ca 104 100 [(tm 102), (tm 103)],
 mo 20 (tm 104)])
 (.seq (.reg [mo 105 (tm 20),
 b2 106 .neq 39 (tm 105) (ki 0) 39 4])
 (.cond (tm 106) (.seq (.reg [oo 107 (.build [(.int .u64 0), (.int .u8 0), (.int .u64 0), (.int .u64 0), (.int .u8 0), (.string ⟨#[]⟩), (.string ⟨#[]⟩), (.string ⟨#[]⟩), (.string ⟨#[]⟩), (.string ⟨#[]⟩), (.slice none 0 0)] []),
 mo 108 (tm 20),
 mo 4 (.const (.pointer none)),
 sr 11 (tm 5) (tm 107),
 mo 6 (tm 108)])
 .ret)
 .skip)))
 .skip)))))))
 (.seq (.keep [0, 5, 7, 8, 66, 67, 68])
 (.reg [b2 109 .add 3 (tm 68) (ki 1) 3 3,
 mo 68 (tm 109)])))))))

def lp53x1 : LCode := .loop (.seq (.keep [0, 5, 7, 8, 38, 39, 40])
 (.seq (.reg [b2 41 .lss 3 (tm 40) (tm 39) 3 0])
 (.seq (.cond (tm 41) .skip
 (.exit 1))
 (.seq (.keep [0, 5, 7, 38, 39, 40])
 (.seq (.block 2 (.seq (.reg [is 42 1 (tm 38) (tm 40),
 l1 43 (tm 42),
 mo 10 (tm 43)])
 (.seq (.seq (.reg [mo 45 (tm 7),
 mo 46 (tm 10),
 ca 47 97 [(tm 45), (tm 46)],
 mo 44 (tm 47),
 ex 48 (tm 44) 0,
 ex 49 (tm 44) 1,
 oo 11 (.alloc [(.int .u64 0), (.int .u8 0), (.int .u64 0), (.int .u64 0), (.int .u8 0), (.string ⟨#[]⟩), (.string ⟨#[]⟩), (.string ⟨#[]⟩), (.string ⟨#[]⟩), (.string ⟨#[]⟩), (.slice none 0 0)]),
 sr 11 (tm 11) (tm 48),
 mo 12 (tm 49)])
 (.seq (.keep [0, 5, 7, 10, 11, 12, 38, 39, 40])
 (.seq (.reg [mo 50 (tm 12)])
 (.cond (tm 50) (.reg [mo 51 (tm 7),
 l2 52 11 (tm 11),
 nc 53 (tm 51),
 fa 54 3 (tm 53),
 sr 11 (tm 54) (tm 52)])
 .skip))))
 (.seq (.keep [0, 5, 7, 10, 38, 39, 40])
 (.reg [mo 55 (tm 10),
 b2 56 .add 22 (tm 55) (ku 1) 22 22,
 mo 8 (tm 56)])))))
 (.seq (.keep [0, 5, 7, 8, 38, 39, 40])
 (.reg [b2 57 .add 3 (tm 40) (ki 1) 3 3,
 mo 40 (tm 57)])))))))

def lf53 : LFunc := ⟨2, [.tmp 4, .ldn 5 11, .tmp 6],
 (.seq (.reg [mo 4 (.const (.pointer none)),
 oo 5 (.alloc [(.int .u64 0), (.int .u8 0), (.int .u64 0), (.int .u64 0), (.int .u8 0), (.string ⟨#[]⟩), (.string ⟨#[]⟩), (.string ⟨#[]⟩), (.string ⟨#[]⟩), (.string ⟨#[]⟩), (.slice none 0 0)]),
 mo 6 (ki 0)])
 (.seq (.block 0 (.seq (.reg [mo 22 (tm 0),
 oo 23 (.cmpref 0 false (tm 22) (.const (.pointer none))),
 mo 24 (tm 23),
 ⟨(some 25), (some (24, false)), .mv (tm 1)⟩,
 ⟨(some 26), (some (24, false)), .cmpref 0 false (tm 25) (.const (.pointer none))⟩,
 oo 27 (.pick (tm 24) (kB true) (tm 26)),
 mo 21 (tm 27)])
 (.cond (tm 21) (.seq (.reg [oo 28 (.build [(.int .u64 0), (.int .u8 0), (.int .u64 0), (.int .u64 0), (.int .u8 0), (.string ⟨#[]⟩), (.string ⟨#[]⟩), (.string ⟨#[]⟩), (.string ⟨#[]⟩), (.string ⟨#[]⟩), (.slice none 0 0)] []),
 mo 4 (.const (.pointer none)),
 sr 11 (tm 5) (tm 28),
 mo 6 (ki 2)])
 .ret)
 (.seq (.reg [mo 30 (tm 0),
 ca 31 96 [(tm 30)],
 mo 29 (tm 31)])
 (.cond (tm 29) (.seq (.reg [oo 32 (.build [(.int .u64 0), (.int .u8 0), (.int .u64 0), (.int .u64 0), (.int .u8 0), (.string ⟨#[]⟩), (.string ⟨#[]⟩), (.string ⟨#[]⟩), (.string ⟨#[]⟩), (.string ⟨#[]⟩), (.slice none 0 0)] []),
 mo 4 (.const (.pointer none)),
 sr 11 (tm 5) (tm 32),
 mo 6 (ki 7)])
 .ret)
 .skip)))))
 (.seq (.keep [0, 1, 5])
 (.seq (.reg [mo 33 (tm 0),
 mo 34 (tm 1),
 oo 35 (.build [(.pointer none), (.pointer none), (.pointer none), (.int .u64 0), (.int .u8 0), (.int .u64 0), (.int .u64 0), (.int .u8 0), (.string ⟨#[]⟩), (.string ⟨#[]⟩), (.string ⟨#[]⟩), (.string ⟨#[]⟩), (.string ⟨#[]⟩), (.slice none 0 0), (.bool false)] [(0, 1, (tm 33)), (1, 1, (tm 34))]),
 oo 36 (.box (tm 35)),
 mo 7 (tm 36)])
 (.seq (.reg [mo 8 (ku 1)])
 (.seq (.seq (.reg [mo 37 (tm 0),
 ca 38 34 [(tm 37)],
 le 39 false (tm 38),
 mo 40 (ki 0)])
 (.block 1 lp53x1))
 (.seq (.keep [0, 5, 7, 8])
 (.seq (.seq (.reg [mo 58 (tm 7),
 mo 59 (tm 8),
 ca 60 98 [(tm 58), (tm 59)],
 mo 13 (tm 60)])
 (.seq (.reg [mo 61 (tm 13),
 b2 62 .neq 39 (tm 61) (ki 0) 39 4])
 (.cond (tm 62) (.seq (.reg [oo 63 (.build [(.int .u64 0), (.int .u8 0), (.int .u64 0), (.int .u64 0), (.int .u8 0), (.string ⟨#[]⟩), (.string ⟨#[]⟩), (.string ⟨#[]⟩), (.string ⟨#[]⟩), (.string ⟨#[]⟩), (.slice none 0 0)] []),
 mo 64 (tm 13),
 mo 4 (.const (.pointer none)),
 sr 11 (tm 5) (tm 63),
 mo 6 (tm 64)])
 .ret)
 .skip)))
 (.seq (.keep [0, 5, 7, 8])
 (.seq (.seq (.reg [mo 65 (tm 0),
 ca 66 64 [(tm 65)],
 le 67 false (tm 66),
 mo 68 (ki 0)])
 (.block 3 lp53x0))
 (.seq (.keep [5, 7])
 (.seq (.reg [mo 110 (tm 7),
 mo 111 (tm 7),
 nc 112 (tm 111),
 fa 113 3 (tm 112),
 l2 114 11 (tm 113),
 ca 115 92 [(tm 114)],
 mo 4 (tm 110),
 sr 11 (tm 5) (tm 115),
 mo 6 (ki 0)])
 (.seq (.keep [4, 5, 6])
 .ret)))))))))))))⟩

def lp54x0 : LCode := .loop (.seq (.keep [0, 2, 4, 6, 9])
 (.seq (.seq (.reg [mo 17 (tm 9),
 mo 18 (tm 2),
 le 19 false (tm 18),
 b2 20 .lss 3 (tm 17) (tm 19) 3 4])
 (.cond (tm 20) .skip
 (.exit 0)))
 (.seq (.keep [0, 2, 4, 6, 9])
 (.seq (.block 1 (.seq (.reg [mo 10 (ki 0)])
 (.seq (.reg [mo 11 (.const (.slice none 0 0))])
 (.seq (.reg [l2 23 11 (tm 4),
 oo 12 (.alloc [(.int .u64 0), (.int .u8 0), (.int .u64 0), (.int .u64 0), (.int .u8 0), (.string ⟨#[]⟩), (.string ⟨#[]⟩), (.string ⟨#[]⟩), (.string ⟨#[]⟩), (.string ⟨#[]⟩), (.slice none 0 0)]),
 sr 11 (tm 12) (tm 23)])
 (.seq (.seq (.reg [mo 24 (tm 2),
 mo 25 (tm 9),
 is 26 10 (tm 24) (tm 25),
 fa 27 0 (tm 26),
 l1 28 (tm 27)])
 (.block 2 (.seq (.reg [b2 30 .eql 5 (tm 28) (kb 0) 5 4,
 mo 29 (tm 30)])
 (.cond (tm 29) (.seq (.reg [mo 31 (tm 0),
 mo 32 (tm 2),
 mo 33 (tm 9),
 is 34 10 (tm 32) (tm 33),
 fa 35 1 (tm 34),
 l1 36 (tm 35),
 ca 37 58 [(tm 31), (tm 36)],
 mo 10 (tm 37)])
 (.seq (.keep [0, 2, 4, 6, 9, 10, 11, 12])
 (.seq (.dreg [l2 39 11 (tm 4),
 mo 40 (tm 2),
 mo 41 (tm 9),
 is 42 10 (tm 40) (tm 41),
 fa 43 1 (tm 42),
 l1 44 (tm 43),
 ca 45 47 [(tm 39), (tm 44)],
 mo 38 (tm 45),
 ex 46 (tm 38) 0,
 ex 47 (tm 38) 1,
 oo 13 (.alloc [(.int .u64 0), (.int .u8 0), (.int .u64 0), (.int .u64 0), (.int .u8 0), (.string ⟨#[]⟩), (.string ⟨#[]⟩), (.string ⟨#[]⟩), (.string ⟨#[]⟩), (.string ⟨#[]⟩), (.slice none 0 0)]),
 sr 11 (tm 13) (tm 46),
 mo 14 (tm 47)] [])
 (.seq (.keep [0, 2, 4, 6, 9, 10, 11, 12, 13, 14])
 (.seq (.reg [mo 48 (tm 14),
 b2 49 .eql 39 (tm 48) (ki 0) 39 4])
 (.cond (tm 49) (.seq (.reg [l2 50 11 (tm 13),
 sr 11 (tm 12) (tm 50)])
 (.dreg [l2 51 11 (tm 4),
 mo 52 (tm 2),
 mo 53 (tm 9),
 is 54 10 (tm 52) (tm 53),
 fa 55 1 (tm 54),
 l1 56 (tm 55),
 ca 57 101 [(tm 51), (tm 56)],
 mo 11 (tm 57)] []))
 .skip))))))
 (.seq (.reg [b2 59 .eql 5 (tm 28) (kb 1) 5 4,
 mo 58 (tm 59)])
 (.cond (tm 58) (.seq (.reg [mo 60 (tm 0),
 mo 61 (tm 2),
 mo 62 (tm 9),
 is 63 10 (tm 61) (tm 62),
 fa 64 2 (tm 63),
 l2 65 8 (tm 64),
 ca 66 59 [(tm 60), (tm 65)],
 mo 10 (tm 66)])
 (.seq (.keep [0, 2, 4, 6, 9, 10, 11, 12])
 (.seq (.dreg [l2 68 11 (tm 4),
 mo 69 (tm 2),
 mo 70 (tm 9),
 is 71 10 (tm 69) (tm 70),
 fa 72 2 (tm 71),
 l2 73 8 (tm 72),
 ca 74 49 [(tm 68), (tm 73)],
 mo 67 (tm 74),
 ex 75 (tm 67) 0,
 ex 76 (tm 67) 1,
 oo 15 (.alloc [(.int .u64 0), (.int .u8 0), (.int .u64 0), (.int .u64 0), (.int .u8 0), (.string ⟨#[]⟩), (.string ⟨#[]⟩), (.string ⟨#[]⟩), (.string ⟨#[]⟩), (.string ⟨#[]⟩), (.slice none 0 0)]),
 sr 11 (tm 15) (tm 75),
 mo 16 (tm 76)] [])
 (.seq (.keep [0, 2, 4, 6, 9, 10, 11, 12, 15, 16])
 (.seq (.reg [mo 77 (tm 16),
 b2 78 .eql 39 (tm 77) (ki 0) 39 4])
 (.cond (tm 78) (.seq (.reg [l2 79 11 (tm 15),
 sr 11 (tm 12) (tm 79)])
 (.reg [mo 80 (tm 11),
 l2 81 11 (tm 15),
 oo 82 (.bslice 11 1 [(.int .u64 0), (.int .u8 0), (.int .u64 0), (.int .u64 0), (.int .u8 0), (.string ⟨#[]⟩), (.string ⟨#[]⟩), (.string ⟨#[]⟩), (.string ⟨#[]⟩), (.string ⟨#[]⟩), (.slice none 0 0)] [(0, 11, (tm 81))]),
 ap 83 11 144 (tm 80) (tm 82),
 mo 11 (tm 83)]))
 .skip))))))
 .skip))))))
 (.seq (.keep [0, 2, 4, 6, 9, 10, 11, 12])
 (.seq (.seq (.reg [mo 84 (tm 10),
 b2 85 .eql 39 (tm 84) (ki 7) 39 4])
 (.cond (tm 85) (.seq (.reg [l2 86 11 (tm 4),
 mo 87 (tm 11),
 sr 11 (tm 6) (tm 86),
 mo 7 (tm 87),
 mo 8 (kB true)])
 .ret)
 .skip))
 (.seq (.keep [0, 2, 4, 6, 9, 10, 12])
 (.seq (.reg [mo 88 (tm 10),
 b2 89 .eql 39 (tm 88) (ki 0) 39 4])
 (.cond (tm 89) (.reg [l2 90 11 (tm 12),
 sr 11 (tm 4) (tm 90)])
 .skip))))))))))
 (.seq (.keep [0, 2, 4, 6, 9])
 (.reg [mo 21 (tm 9),
 b2 22 .add 3 (tm 21) (ki 1) 3 3,
 mo 9 (tm 22)]))))))

def lf54 : LFunc := ⟨3, [.ldn 6 11, .tmp 7, .tmp 8],
 (.seq (.reg [oo 4 (.box (tm 1)),
 oo 6 (.alloc [(.int .u64 0), (.int .u8 0), (.int .u64 0), (.int .u64 0), (.int .u8 0), (.string ⟨#[]⟩), (.string ⟨#[]⟩), (.string ⟨#[]⟩), (.string ⟨#[]⟩), (.string ⟨#[]⟩), (.slice none 0 0)]),
 mo 7 (.const (.slice none 0 0)),
 mo 8 (kB false)])
 (.seq (.seq (.reg [mo 9 (ki 0)])
 (.block 0 lp54x0))
 (.seq (.keep [4, 6])
 (.seq (.reg [l2 91 11 (tm 4),
 sr 11 (tm 6) (tm 91),
 mo 7 (.const (.slice none 0 0)),
 mo 8 (kB false)])
 .ret))))⟩

def lp55x0 : LCode := .loop (.seq (.keep [2, 3, 7])
 (.seq (.seq (.reg [mo 12 (tm 7),
 mo 13 (tm 2),
 le 14 false (tm 13),
 b2 15 .lss 3 (tm 12) (tm 14) 3 4])
 (.cond (tm 15) .skip
 (.exit 0)))
 (.seq (.keep [2, 3, 7])
 (.seq (.block 1 (.seq (.dreg [l2 18 11 (tm 3),
 ca 19 44 [(tm 18)],
 mo 20 (tm 2),
 mo 21 (tm 7),
 is 22 11 (tm 20) (tm 21),
 l2 23 11 (tm 22),
 ca 24 50 [(tm 19), (tm 23)]] [(5, 0, 1)])
 (.cond (tm 24) (.seq (.reg [mo 6 (kB true)])
 .ret)
 .skip)))
 (.seq (.keep [2, 3, 7])
 (.reg [mo 16 (tm 7),
 b2 17 .add 3 (tm 16) (ki 1) 3 3,
 mo 7 (tm 17)]))))))

def lf55 : LFunc := ⟨3, [.tmp 6],
 (.seq (.reg [oo 3 (.box (tm 0)),
 oo 4 (.box (tm 1)),
 mo 6 (kB false)])
 (.seq (.seq (.dreg [l2 8 11 (tm 3),
 ca 9 44 [(tm 8)],
 l2 10 11 (tm 4),
 ca 11 50 [(tm 9), (tm 10)]] [(2, 0, 1)])
 (.cond (tm 11) (.seq (.reg [mo 6 (kB true)])
 .ret)
 .skip))
 (.seq (.keep [2, 3])
 (.seq (.seq (.reg [mo 7 (ki 0)])
 (.block 0 lp55x0))
 (.seq (.keep [])
 (.seq (.reg [mo 6 (kB false)])
 .ret))))))⟩

def lf56 : LFunc := ⟨3, [.ldn 6 11, .tmp 7],
 (.seq (.reg [oo 5 (.box (tm 2)),
 oo 6 (.alloc [(.int .u64 0), (.int .u8 0), (.int .u64 0), (.int .u64 0), (.int .u8 0), (.string ⟨#[]⟩), (.string ⟨#[]⟩), (.string ⟨#[]⟩), (.string ⟨#[]⟩), (.string ⟨#[]⟩), (.slice none 0 0)]),
 mo 7 (kB false)])
 (.seq (.reg [ca 16 18 [],
 mo 8 (tm 16)])
 (.seq (.reg [ca 17 19 [],
 oo 9 (.alloc [(.int .u32 0), (.int .u32 0), (.int .u32 0), (.int .u32 0), (.int .u32 0), (.int .u32 0), (.int .u32 0), (.int .u32 0), (.int .u32 0), (.int .u32 0), (.int .u32 0), (.int .u32 0), (.int .u32 0), (.int .u32 0), (.int .u32 0), (.int .u32 0), (.int .u32 0), (.int .u32 0), (.int .u32 0), (.int .u32 0), (.int .u32 0), (.int .u32 0), (.int .u32 0), (.int .u32 0), (.int .u32 0), (.int .u32 0), (.int .u32 0), (.int .u32 0), (.int .u32 0), (.int .u32 0), (.int .u32 0), (.int .u32 0), (.int .u32 0), (.int .u32 0), (.int .u32 0), (.int .u32 0), (.int .u32 0), (.int .u32 0), (.int .u32 0), (.int .u32 0), (.int .u32 0), (.int .u32 0), (.int .u32 0), (.int .u32 0), (.int .u32 0), (.int .u32 0), (.int .u32 0), (.int .u32 0), (.int .u32 0), (.int .u32 0), (.int .u32 0), (.int .u32 0), (.int .u32 0), (.int .u32 0), (.int .u32 0), (.int .u32 0), (.int .u32 0), (.int .u32 0), (.int .u32 0), (.int .u32 0), (.int .u32 0), (.int .u32 0), (.int .u32 0), (.int .u32 0), (.int .u32 0), (.int .u32 0), (.int .u32 0), (.int .u32 0), (.int .u32 0), (.int .u32 0), (.int .u32 0), (.int .u32 0), (.int .u32 0), (.int .u32 0), (.int .u32 0), (.int .u32 0), (.int .u32 0), (.int .u32 0), (.int .u32 0), (.int .u32 0), (.int .u32 0), (.int .u32 0), (.int .u32 0), (.int .u32 0), (.int .u32 0), (.int .u32 0), (.int .u32 0), (.int .u32 0), (.int .u32 0), (.int .u32 0), (.int .u32 0), (.int .u32 0), (.int .u32 0), (.int .u32 0), (.int .u32 0), (.int .u32 0), (.int .u32 0), (.int .u32 0), (.int .u32 0), (.int .u32 0), (.int .u32 0), (.int .u32 0), (.int .u32 0), (.int .u32 0), (.int .u32 0), (.int .u32 0), (.int .u32 0), (.int .u32 0), (.int .u32 0), (.int .u32 0), (.int .u32 0), (.int .u32 0), (.int .u32 0), (.int .u32 0), (.int .u32 0), (.int .u32 0), (.int .u32 0), (.int .u32 0), (.int .u32 0), (.int .u32 0), (.int .u32 0), (.int .u32 0), (.int .u32 0), (.int .u32 0), (.int .u32 0), (.int .u32 0), (.int .u32 0), (.int .u32 0), (.int .u32 0), (.int .u32 0), (.int .u32 0), (.int .u32 0), (.int .u32 0), (.int .u32 0), (.int .u32 0), (.int .u32 0), (.int .u32 0), (.int .u32 0), (.int .u32 0), (.int .u32 0), (.int .u32 0), (.int .u32 0), (.int .u32 0), (.int .u32 0), (.int .u32 0), (.int .u32 0), (.int .u32 0), (.int .u32 0), (.int .u32 0), (.int .u32 0), (.int .u32 0), (.int .u32 0), (.int .u32 0), (.int .u32 0), (.int .u32 0), (.int .u32 0), (.int .u32 0), (.int .u32 0), (.int .u32 0), (.int .u32 0), (.int .u32 0), (.int .u32 0), (.int .u32 0), (.int .u32 0), (.int .u32 0), (.int .u32 0), (.int .u32 0), (.int .u32 0), (.int .u32 0), (.int .u32 0), (.int .u32 0), (.int .u32 0), (.int .u32 0), (.int .u32 0), (.int .u32 0), (.int .u32 0), (.int .u32 0), (.int .u32 0), (.int .u32 0), (.int .u32 0), (.int .u32 0), (.int .u32 0), (.int .u32 0), (.int .u32 0), (.int .u32 0), (.int .u32 0), (.int .u32 0), (.int .u32 0), (.int .u32 0), (.int .u32 0), (.int .u32 0), (.int .u32 0), (.int .u32 0), (.int .u32 0), (.int .u32 0), (.int .u32 0), (.int .u32 0), (.int .u32 0), (.int .u32 0), (.int .u32 0), (.int .u32 0), (.int .u32 0), (.int .u32 0), (.int .u32 0), (.int .u32 0), (.int .u32 0), (.int .u32 0), (.int .u32 0), (.int .u32 0), (.int .u32 0), (.int .u32 0), (.int .u32 0), (.int .u32 0), (.int .u32 0), (.int .u32 0), (.int .u32 0), (.int .u32 0), (.int .u32 0), (.int .u32 0), (.int .u32 0), (.int .u32 0), (.int .u32 0), (.int .u32 0), (.int .u32 0), (.int .u32 0), (.int .u32 0), (.int .u32 0), (.int .u32 0), (.int .u32 0), (.int .u32 0), (.int .u32 0), (.int .u32 0), (.int .u32 0), (.int .u32 0), (.int .u32 0), (.int .u32 0), (.int .u32 0), (.int .u32 0), (.int .u32 0), (.int .u32 0), (.int .u32 0), (.int .u32 0), (.int .u32 0), (.int .u32 0), (.int .u32 0), (.int .u32 0), (.int .u32 0), (.int .u32 0), (.int .u32 0), (.int .u32 0), (.int .u32 0), (.int .u32 0), (.int .u32 0), (.int .u32 0), (.int .u32 0), (.int .u32 0)]),
 sr 256 (tm 9) (tm 17)])
 (.seq (.reg [mo 19 (tm 8),
 ca 20 53 [(tm 19), (tm 9)],
 mo 18 (tm 20),
 ex 21 (tm 18) 0,
 ex 22 (tm 18) 1,
 ex 23 (tm 18) 2,
 oo 11 (.alloc [(.int .u64 0), (.int .u8 0), (.int .u64 0), (.int .u64 0), (.int .u8 0), (.string ⟨#[]⟩), (.string ⟨#[]⟩), (.string ⟨#[]⟩), (.string ⟨#[]⟩), (.string ⟨#[]⟩), (.slice none 0 0)]),
 mo 10 (tm 21),
 sr 11 (tm 11) (tm 22),
 mo 12 (tm 23)])
 (.seq (.keep [0, 1, 5, 6, 8, 9, 10, 12])
 (.seq (.seq (.reg [mo 24 (tm 12),
 b2 25 .neq 39 (tm 24) (ki 0) 39 4,
 mo 26 (tm 25),
 ⟨(some 27), (some (26, false)), .mv (tm 10)⟩,
 ⟨(some 28), (some (26, false)), .cmpref 0 false (tm 27) (.const (.pointer none))⟩,
 oo 29 (.pick (tm 26) (kB true) (tm 28))])
 (.cond (tm 29) (.seq (.reg [oo 30 (.build [(.int .u64 0), (.int .u8 0), (.int .u64 0), (.int .u64 0), (.int .u8 0), (.string ⟨#[]⟩), (.string ⟨#[]⟩), (.string ⟨#[]⟩), (.string ⟨#[]⟩), (.string ⟨#[]⟩), (.slice none 0 0)] []),
 sr 11 (tm 6) (tm 30),
 mo 7 (kB false)])
 .ret)
 .skip))
 (.seq (.keep [0, 1, 5, 6, 8, 9, 10])
 (.seq (.reg [mo 31 (tm 8),
 mo 32 (tm 1),
 cv 33 5 3 (tm 32) 3,
 ca 34 22 [(tm 31), (tm 33)]])
 (.seq (.reg [mo 35 (tm 10),
 oo 36 (.build [(.int .u64 0), (.int .u8 0), (.int .u64 0), (.int .u64 0), (.int .u8 0), (.string ⟨#[]⟩), (.string ⟨#[]⟩), (.string ⟨#[]⟩), (.string ⟨#[]⟩), (.string ⟨#[]⟩), (.slice none 0 0)] []),
 mo 37 (tm 0),
 ca 38 54 [(tm 35), (tm 36), (tm 37)]])
 (.seq (.reg [mo 39 (tm 8),
 l2 40 2 (tm 5),
 ca 41 24 [(tm 39), (tm 40)]])
 (.seq (.reg [mo 42 (tm 8),
 ca 43 25 [(tm 42)]])
 (.seq (.reg [mo 44 (tm 8),
 ca 45 22 [(tm 44), (ki 0)]])
 (.seq (.reg [mo 47 (tm 8),
 ca 48 53 [(tm 47), (tm 9)],
 mo 46 (tm 48),
 ex 49 (tm 46) 0,
 ex 50 (tm 46) 1,
 ex 51 (tm 46) 2,
 oo 14 (.alloc [(.int .u64 0), (.int .u8 0), (.int .u64 0), (.int .u64 0), (.int .u8 0), (.string ⟨#[]⟩), (.string ⟨#[]⟩), (.string ⟨#[]⟩), (.string ⟨#[]⟩), (.string ⟨#[]⟩), (.slice none 0 0)]),
 mo 13 (tm 49),
 sr 11 (tm 14) (tm 50),
 mo 15 (tm 51)])
 (.seq (.keep [6, 14, 15])
 (.seq (.reg [l2 52 11 (tm 14),
 mo 53 (tm 15),
 b2 54 .eql 39 (tm 53) (ki 0) 39 4,
 sr 11 (tm 6) (tm 52),
 mo 7 (tm 54)])
 .ret)))))))))))))))⟩

def lf57 : LFunc := ⟨3, [.tmp 6],
 (.seq (.reg [mo 6 (ki 0)])
 (.seq (.seq (.reg [mo 10 (tm 0),
 ca 11 83 [(tm 10)],
 mo 7 (tm 11)])
 (.seq (.reg [mo 12 (tm 7),
 b2 13 .neq 39 (tm 12) (ki 0) 39 4])
 (.cond (tm 13) (.seq (.reg [mo 14 (tm 7),
 mo 6 (tm 14)])
 .ret)
 .skip)))
 (.seq (.keep [0, 1, 2])
 (.seq (.reg [mo 15 (tm 0),
 nc 16 (tm 15),
 fa 17 0 (tm 16),
 l1 18 (tm 17),
 mo 19 (tm 1),
 oo 20 (.look 9 (.agg #[(.slice none 0 0), (.int .i64 0), (.bool false), (.string ⟨#[]⟩)]) (tm 18) (tm 19) false),
 oo 8 (.alloc [(.slice none 0 0), (.int .i64 0), (.bool false), (.string ⟨#[]⟩)]),
 sr 4 (tm 8) (tm 20)])
 (.seq (.keep [0, 1, 2, 8])
 (.seq (.block 0 (.seq (.reg [mo 22 (tm 1),
 ca 23 102 [(tm 22)],
 u1 24 .not 4 (tm 23) 4,
 mo 25 (tm 24),
 ⟨(some 26), (some (25, false)), .mv (tm 2)⟩,
 ⟨(some 27), (some (25, false)), .prim ⟨none, (.binOp .eql 9 (tm 26) (.const (.string ⟨#[]⟩)) 9), 4, "", #[], none⟩⟩,
 oo 28 (.pick (tm 25) (kB true) (tm 27)),
 mo 21 (tm 28)])
 (.seq (.keep [0, 1, 2, 8, 21])
 (.cond (tm 21) (.seq (.reg [mo 6 (ki 1)])
 .ret)
 (.seq (.reg [fa 30 2 (tm 8),
 l1 31 (tm 30),
 mo 29 (tm 31)])
 (.cond (tm 29) (.seq (.reg [mo 6 (ki 9)])
 .ret)
 .skip))))))
 (.seq (.keep [0, 1, 2, 8])
 (.seq (.seq (.reg [mo 32 (tm 0),
 ca 33 103 [(tm 32)],
 mo 9 (tm 33)])
 (.seq (.reg [mo 34 (tm 9),
 b2 35 .neq 39 (tm 34) (ki 0) 39 4])
 (.cond (tm 35) (.seq (.reg [mo 36 (tm 9),
 mo 6 (tm 36)])
 .ret)
 .skip)))
 (.seq (.keep [0, 1, 2, 8])
 (.seq (.reg [fa 37 0 (tm 8),
 l1 38 (tm 37),
 ca 39 104 [(tm 38)],
 mo 40 (tm 2),
 oo 41 (.bslice 1 1 [(.string ⟨#[]⟩)] [(0, 1, (tm 40))]),
 ap 42 1 16 (tm 39) (tm 41),
 fa 43 0 (tm 8),
 sr 1 (tm 43) (tm 42)])
 (.seq (.keep [0, 1, 8])
 (.seq (.dreg [mo 44 (tm 0),
 nc 45 (tm 44),
 fa 46 0 (tm 45),
 l1 47 (tm 46),
 mo 48 (tm 1),
 l2 49 4 (tm 8),
 ⟨none, none, .mput 9 (tm 47) (tm 48) (tm 49)⟩] [])
 (.seq (.reg [mo 6 (ki 0)])
 .ret)))))))))))))⟩

def lf58 : LFunc := ⟨2, [.tmp 4],
 (.seq (.reg [mo 4 (ki 0)])
 (.seq (.seq (.reg [mo 9 (tm 0),
 ca 10 105 [(tm 9)],
 mo 5 (tm 10)])
 (.seq (.reg [mo 11 (tm 5),
 b2 12 .neq 39 (tm 11) (ki 0) 39 4])
 (.cond (tm 12) (.seq (.reg [mo 13 (tm 5),
 mo 4 (tm 13)])
 .ret)
 .skip)))
 (.seq (.keep [0, 1])
 (.seq (.reg [mo 15 (tm 0),
 nc 16 (tm 15),
 fa 17 3 (tm 16),
 l2 18 11 (tm 17),
 mo 19 (tm 1),
 ca 20 46 [(tm 18), (tm 19)],
 mo 14 (tm 20),
 ex 21 (tm 14) 0,
 ex 22 (tm 14) 1,
 oo 6 (.alloc [(.int .u64 0), (.int .u8 0), (.int .u64 0), (.int .u64 0), (.int .u8 0), (.string ⟨#[]⟩), (.string ⟨#[]⟩), (.string ⟨#[]⟩), (.string ⟨#[]⟩), (.string ⟨#[]⟩), (.slice none 0 0)]),
 sr 11 (tm 6) (tm 21),
 mo 7 (tm 22)])
 (.seq (.keep [0, 1, 6, 7])
 (.seq (.seq (.reg [mo 23 (tm 7),
 b2 24 .neq 39 (tm 23) (ki 0) 39 4])
 (.cond (tm 24) (.seq (.reg [mo 25 (tm 7),
 mo 4 (tm 25)])
 .ret)
 .skip))
 (.seq (.keep [0, 1, 6])
 (.seq (.seq (.reg [mo 26 (tm 0),
 nc 27 (tm 26),
 fa 28 2 (tm 27),
 l1 29 (tm 28),
 mo 30 (tm 1),
 ca 31 23 [(tm 29), (tm 30)],
 mo 8 (tm 31)])
 (.seq (.reg [mo 32 (tm 8),
 b2 33 .neq 39 (tm 32) (ki 0) 39 4])
 (.cond (tm 33) (.seq (.reg [mo 34 (tm 0),
 mo 35 (tm 8),
 ca 36 106 [(tm 34), (tm 35)],
 mo 4 (tm 36)])
 .ret)
 .skip)))
 (.seq (.keep [0, 6])
 (.seq (.reg [mo 37 (tm 0),
 l2 38 11 (tm 6),
 nc 39 (tm 37),
 fa 40 3 (tm 39),
 sr 11 (tm 40) (tm 38)])
 (.seq (.seq (.reg [mo 41 (tm 0),
 nc 42 (tm 41),
 fa 43 2 (tm 42),
 l1 44 (tm 43),
 ca 45 35 [(tm 44)],
 b2 46 .lss 3 (tm 45) (ki 32) 3 4])
 (.cond (tm 46) (.seq (.reg [mo 4 (ki 0)])
 .ret)
 .skip))
 (.seq (.keep [0])
 (.seq (.reg [mo 47 (tm 0),
 mo 48 (tm 0),
 ca 49 107 [(tm 48)],
 ca 50 106 [(tm 47), (tm 49)],
 mo 4 (tm 50)])
 .ret)))))))))))))⟩

def lp59x0 : LCode := .loop (.seq (.keep [0, 3, 6, 8, 38, 39, 40])
 (.seq (.reg [b2 41 .lss 3 (tm 40) (tm 39) 3 0])
 (.seq (.cond (tm 41) .skip
 (.exit 0))
 (.seq (.keep [0, 3, 6, 8, 38, 39, 40])
 (.seq (.block 1 (.seq (.reg [is 42 1 (tm 38) (tm 40),
 l1 43 (tm 42),
 mo 10 (tm 43)])
 (.seq (.dreg [mo 44 (tm 0),
 nc 45 (tm 44),
 fa 46 0 (tm 45),
 l1 47 (tm 46),
 fa 48 0 (tm 3),
 l1 49 (tm 48),
 ca 50 109 [(tm 49)],
 mo 51 (tm 0),
 nc 52 (tm 51),
 fa 53 1 (tm 52),
 l1 54 (tm 53),
 mo 55 (tm 10),
 ca 56 110 [(tm 54), (tm 55)],
 ca 57 57 [(tm 47), (tm 50), (tm 56)],
 mo 11 (tm 57)] [(3, 0, 2), (10, 0, 1)])
 (.seq (.keep [0, 3, 6, 8, 11, 38, 39, 40])
 (.seq (.reg [mo 58 (tm 11),
 b2 59 .neq 39 (tm 58) (ki 0) 39 4])
 (.cond (tm 59) (.seq (.reg [mo 60 (tm 0),
 mo 61 (tm 11),
 ca 62 106 [(tm 60), (tm 61)],
 mo 4 (tm 62)])
 .ret)
 .skip))))))
 (.seq (.keep [0, 3, 6, 8, 38, 39, 40])
 (.reg [b2 63 .add 3 (tm 40) (ki 1) 3 3,
 mo 40 (tm 63)])))))))

def lf59 : LFunc := ⟨2, [.tmp 4],
 (.seq (.reg [oo 3 (.box (tm 1)),
 mo 4 (ki 0)])
 (.seq (.seq (.reg [mo 14 (tm 0),
 ca 15 105 [(tm 14)],
 mo 5 (tm 15)])
 (.seq (.reg [mo 16 (tm 5),
 b2 17 .neq 39 (tm 16) (ki 0) 39 4])
 (.cond (tm 17) (.seq (.reg [mo 18 (tm 5),
 mo 4 (tm 18)])
 .ret)
 .skip)))
 (.seq (.keep [0, 3])
 (.seq (.dreg [mo 20 (tm 0),
 nc 21 (tm 20),
 fa 22 3 (tm 21),
 l2 23 11 (tm 22),
 l2 24 8 (tm 3),
 ca 25 48 [(tm 23), (tm 24)],
 mo 19 (tm 25),
 ex 26 (tm 19) 0,
 ex 27 (tm 19) 1,
 oo 6 (.alloc [(.int .u64 0), (.int .u8 0), (.int .u64 0), (.int .u64 0), (.int .u8 0), (.string ⟨#[]⟩), (.string ⟨#[]⟩), (.string ⟨#[]⟩), (.string ⟨#[]⟩), (.string ⟨#[]⟩), (.slice none 0 0)]),
 sr 11 (tm 6) (tm 26),
 mo 7 (tm 27)] [])
 (.seq (.keep [0, 3, 6, 7])
 (.seq (.seq (.reg [mo 28 (tm 7),
 b2 29 .neq 39 (tm 28) (ki 0) 39 4])
 (.cond (tm 29) (.seq (.reg [mo 30 (tm 7),
 mo 4 (tm 30)])
 .ret)
 .skip))
 (.seq (.keep [0, 3, 6])
 (.seq (.reg [mo 31 (tm 0),
 nc 32 (tm 31),
 fa 33 3 (tm 32),
 fa 34 2 (tm 33),
 fa 35 0 (tm 34),
 l1 36 (tm 35),
 mo 8 (tm 36)])
 (.seq (.seq (.reg [l2 37 8 (tm 3),
 ca 38 108 [(tm 37)],
 le 39 false (tm 38),
 mo 40 (ki 0)])
 (.block 0 lp59x0))
 (.seq (.keep [0, 3, 6, 8])
 (.seq (.seq (.dreg [mo 64 (tm 0),
 nc 65 (tm 64),
 fa 66 0 (tm 65),
 l1 67 (tm 66),
 fa 68 0 (tm 3),
 l1 69 (tm 68),
 ca 70 109 [(tm 69)],
 ca 71 111 [(tm 67), (tm 70)],
 mo 12 (tm 71)] [(3, 0, 1)])
 (.seq (.keep [0, 6, 8, 12])
 (.seq (.reg [mo 72 (tm 12),
 b2 73 .neq 39 (tm 72) (ki 0) 39 4])
 (.cond (tm 73) (.seq (.reg [mo 74 (tm 0),
 mo 75 (tm 12),
 ca 76 106 [(tm 74), (tm 75)],
 mo 4 (tm 76)])
 .ret)
 .skip))))
 (.seq (.keep [0, 6, 8])
 (.seq (.reg [mo 77 (tm 0),
 l2 78 11 (tm 6),
 nc 79 (tm 77),
 fa 80 3 (tm 79),
 sr 11 (tm 80) (tm 78)])
 (.seq (.seq (.reg [mo 81 (tm 0),
 ca 82 107 [(tm 81)],
 mo 13 (tm 82)])
 (.seq (.reg [mo 83 (tm 13),
 b2 84 .neq 39 (tm 83) (ki 0) 39 4])
 (.cond (tm 84) (.seq (.reg [mo 85 (tm 0),
 mo 86 (tm 13),
 ca 87 106 [(tm 85), (tm 86)],
 mo 4 (tm 87)])
 .ret)
 .skip)))
 (.seq (.keep [0, 8])
 (.seq (.seq (.reg [mo 88 (tm 8),
 b2 89 .eql 22 (tm 88) (ku 0) 22 4])
 (.cond (tm 89) (.seq (.reg [mo 4 (ki 0)])
 .ret)
 .skip))
 (.seq (.keep [0, 8])
 (.seq (.dreg [mo 90 (tm 0),
 mo 91 (tm 0),
 nc 92 (tm 91),
 fa 93 0 (tm 92),
 l1 94 (tm 93),
 mo 95 (tm 8),
 ca 96 109 [(tm 95)],
 ca 97 100 [(tm 94), (tm 96)],
 ca 98 106 [(tm 90), (tm 97)],
 mo 4 (tm 98)] [(4, 0, 1)])
 (.seq (.keep [4])
 .ret)))))))))))))))))))⟩

def lf60 : LFunc := ⟨1, [.ldn 2 11],
 (.seq (.reg [oo 2 (.alloc [(.int .u64 0), (.int .u8 0), (.int .u64 0), (.int .u64 0), (.int .u8 0), (.string ⟨#[]⟩), (.string ⟨#[]⟩), (.string ⟨#[]⟩), (.string ⟨#[]⟩), (.string ⟨#[]⟩), (.slice none 0 0)])])
 (.seq (.seq (.reg [mo 3 (tm 0),
 oo 4 (.cmpref 0 false (tm 3) (.const (.pointer none)))])
 (.cond (tm 4) (.seq (.reg [oo 5 (.build [(.int .u64 0), (.int .u8 0), (.int .u64 0), (.int .u64 0), (.int .u8 0), (.string ⟨#[]⟩), (.string ⟨#[]⟩), (.string ⟨#[]⟩), (.string ⟨#[]⟩), (.string ⟨#[]⟩), (.slice none 0 0)] []),
 sr 11 (tm 2) (tm 5)])
 .ret)
 .skip))
 (.seq (.keep [0, 2])
 (.seq (.reg [mo 6 (tm 0),
 nc 7 (tm 6),
 fa 8 3 (tm 7),
 l2 9 11 (tm 8),
 ca 10 92 [(tm 9)],
 sr 11 (tm 2) (tm 10)])
 .ret))))⟩

def lf61 : LFunc := ⟨2, [.tmp 4],
 (.seq (.reg [oo 3 (.box (tm 1)),
 mo 4 (kB false)])
 (.seq (.reg [mo 7 (tm 0),
 ca 8 64 [(tm 7)],
 mo 5 (tm 8)])
 (.seq (.reg [mo 6 (ki 2)])
 (.seq (.seq (.reg [fa 9 2 (tm 3),
 fa 10 0 (tm 9),
 l1 11 (tm 10),
 b2 12 .gtr 22 (tm 11) (ku 0) 22 4])
 (.cond (tm 12) (.reg [mo 6 (ki 3)])
 .skip))
 (.seq (.keep [3, 5, 6])
 (.seq (.seq (.reg [mo 13 (tm 5),
 le 14 false (tm 13),
 mo 15 (tm 6),
 b2 16 .neq 3 (tm 14) (tm 15) 3 4,
 mo 17 (tm 16),
 ⟨(some 18), (some (17, false)), .mv (tm 5)⟩,
 ⟨(some 19), (some (17, false)), .iadrs 1 (tm 18) (ki 0)⟩,
 ⟨(some 20), (some (17, false)), .ld1 (tm 19)⟩,
 ⟨(some 21), (some (17, false)), .prim ⟨none, (.binOp .neq 9 (tm 20) (.const (.string ⟨#[111, 116, 104, 101, 114]⟩)) 9), 4, "", #[], none⟩⟩,
 oo 22 (.pick (tm 17) (kB true) (tm 21)),
 mo 23 (tm 22),
 ⟨(some 24), (some (23, false)), .mv (tm 5)⟩,
 ⟨(some 25), (some (23, false)), .iadrs 1 (tm 24) (ki 1)⟩,
 ⟨(some 26), (some (23, false)), .ld1 (tm 25)⟩,
 ⟨(some 27), (some (23, false)), .prim ⟨none, (.call ⟨.builtin .len, #[(tm 26)], #[9]⟩), 3, "", #[], none⟩⟩,
 ⟨(some 28), (some (23, false)), .prim ⟨none, (.binOp .lss 3 (tm 27) (ki 12) 3), 4, "", #[], none⟩⟩,
 oo 29 (.pick (tm 23) (kB true) (tm 28)),
 mo 30 (tm 29),
 ⟨(some 31), (some (30, false)), .mv (tm 5)⟩,
 ⟨(some 32), (some (30, false)), .iadrs 1 (tm 31) (ki 1)⟩,
 ⟨(some 33), (some (30, false)), .ld1 (tm 32)⟩,
 ⟨(some 34), (some (30, false)), .slcs (tm 33) none (some (ki 4))⟩,
 ⟨(some 35), (some (30, false)), .prim ⟨none, (.binOp .neq 9 (tm 34) (.const (.string ⟨#[115, 101, 103, 46]⟩)) 9), 4, "", #[], none⟩⟩,
 oo 36 (.pick (tm 30) (kB true) (tm 35))])
 (.seq (.keep [3, 5, 6, 36])
 (.cond (tm 36) (.seq (.reg [mo 4 (kB false)])
 .ret)
 .skip)))
 (.seq (.keep [3, 5, 6])
 (.seq (.dreg [mo 37 (tm 6),
 b2 38 .eql 3 (tm 37) (ki 2) 3 4,
 mo 39 (tm 38),
 ⟨(some 40), (some (39, false)), .mv (tm 5)⟩,
 ⟨(some 41), (some (39, false)), .iadrs 1 (tm 40) (ki 2)⟩,
 ⟨(some 42), (some (39, false)), .ld1 (tm 41)⟩,
 ⟨(some 43), (some (39, false)), .fadr 2 (tm 3)⟩,
 ⟨(some 44), (some (39, false)), .fadr 0 (tm 43)⟩,
 ⟨(some 45), (some (39, false)), .ld1 (tm 44)⟩,
 ⟨(some 46), (some (39, false)), .call 32 [(tm 45)]⟩,
 ⟨(some 47), (some (39, false)), .slcs (tm 46) (some (ki 3)) none⟩,
 ⟨(some 48), (some (39, false)), .prim ⟨none, (.binOp .add 9 (.const (.string ⟨#[115, 110, 97, 112]⟩)) (tm 47) 9), 9, "", #[], none⟩⟩,
 ⟨(some 49), (some (39, false)), .prim ⟨none, (.binOp .eql 9 (tm 42) (tm 48) 9), 4, "", #[], none⟩⟩,
 oo 50 (.pick (tm 39) (kB true) (tm 49)),
 mo 4 (tm 50)] [(5, 0, 1)])
 (.seq (.keep [4])
 .ret)))))))))⟩

def lf62 : LFunc := ⟨2, [.ldn 4 16],
 (.seq (.reg [oo 4 (.alloc [(.int .u8 0), (.int .u64 0), (.int .u8 0), (.int .u64 0), (.int .u64 0), (.int .u8 0), (.int .u8 0), (.int .u8 0), (.int .u8 0), (.int .u8 0), (.int .u8 0), (.int .u8 0), (.int .u8 0), (.int .u8 0), (.int .u8 0), (.string ⟨#[]⟩)])])
 (.seq (.reg [mo 5 (tm 0),
 mo 6 (tm 1),
 oo 7 (.build [(.int .u8 0), (.int .u64 0), (.int .u8 0), (.int .u64 0), (.int .u64 0), (.int .u8 0), (.int .u8 0), (.int .u8 0), (.int .u8 0), (.int .u8 0), (.int .u8 0), (.int .u8 0), (.int .u8 0), (.int .u8 0), (.int .u8 0), (.string ⟨#[]⟩)] [(0, 1, (kb 2)), (1, 1, (tm 5)), (2, 1, (tm 6))]),
 sr 16 (tm 4) (tm 7)])
 .ret))⟩

def lf63 : LFunc := ⟨2, [.ldn 4 16],
 (.seq (.reg [oo 4 (.alloc [(.int .u8 0), (.int .u64 0), (.int .u8 0), (.int .u64 0), (.int .u64 0), (.int .u8 0), (.int .u8 0), (.int .u8 0), (.int .u8 0), (.int .u8 0), (.int .u8 0), (.int .u8 0), (.int .u8 0), (.int .u8 0), (.int .u8 0), (.string ⟨#[]⟩)])])
 (.seq (.reg [mo 5 (tm 0),
 mo 6 (tm 1),
 oo 7 (.build [(.int .u64 0), (.int .u64 0), (.int .u8 0), (.int .u8 0), (.int .u8 0), (.int .u8 0), (.int .u8 0), (.int .u8 0), (.int .u8 0), (.int .u8 0), (.int .u8 0), (.int .u8 0), (.string ⟨#[]⟩)] [(0, 1, (tm 5)), (1, 1, (tm 6)), (2, 1, (kb 1))]),
 oo 8 (.build [(.int .u8 0), (.int .u64 0), (.int .u8 0), (.int .u64 0), (.int .u64 0), (.int .u8 0), (.int .u8 0), (.int .u8 0), (.int .u8 0), (.int .u8 0), (.int .u8 0), (.int .u8 0), (.int .u8 0), (.int .u8 0), (.int .u8 0), (.string ⟨#[]⟩)] [(0, 1, (kb 3)), (3, 13, (tm 7))]),
 sr 16 (tm 4) (tm 8)])
 .ret))⟩

def lf64 : LFunc := ⟨1, [.tmp 2],
 (.seq (.reg [mo 2 (.const (.slice none 0 0))])
 (.seq (.seq (.reg [mo 3 (tm 0),
 ca 4 72 [(tm 3)]])
 (.cond (tm 4) (.seq (.reg [mo 2 (.const (.slice none 0 0))])
 .ret)
 .skip))
 (.seq (.keep [0])
 (.seq (.reg [mo 5 (tm 0),
 nc 6 (tm 5),
 fa 7 0 (tm 6),
 l1 8 (tm 7),
 ca 9 113 [(tm 8)],
 ca 10 112 [(tm 9)],
 mo 2 (tm 10)])
 .ret))))⟩

def lf65 : LFunc := ⟨2, [.ldn 4 8],
 (.seq (.reg [oo 4 (.alloc [(.int .u64 0), (.int .u64 0), (.int .u8 0), (.string ⟨#[]⟩), (.string ⟨#[]⟩), (.string ⟨#[]⟩), (.string ⟨#[]⟩), (.string ⟨#[]⟩)])])
 (.seq (.reg [mo 5 (tm 0),
 mo 6 (tm 1),
 oo 7 (.build [(.string ⟨#[]⟩), (.string ⟨#[]⟩), (.string ⟨#[]⟩), (.string ⟨#[]⟩), (.string ⟨#[]⟩)] [(0, 1, (.const (.string ⟨#[97]⟩))), (1, 1, (.const (.string ⟨#[]⟩))), (2, 1, (.const (.string ⟨#[99]⟩)))]),
 oo 8 (.build [(.int .u64 0), (.int .u64 0), (.int .u8 0), (.string ⟨#[]⟩), (.string ⟨#[]⟩), (.string ⟨#[]⟩), (.string ⟨#[]⟩), (.string ⟨#[]⟩)] [(0, 1, (tm 5)), (1, 1, (tm 6)), (2, 1, (kb 7)), (3, 5, (tm 7))]),
 sr 8 (tm 4) (tm 8)])
 .ret))⟩

def lf66 : LFunc := ⟨1, [.tmp 2],
 (.seq (.reg [oo 1 (.box (tm 0)),
 mo 2 (kB false)])
 (.seq (.seq (.reg [fa 3 0 (tm 1),
 l1 4 (tm 3),
 b2 5 .eql 5 (tm 4) (kb 2) 5 4])
 (.cond (tm 5) (.seq (.reg [fa 6 3 (tm 1),
 l2 7 13 (tm 6),
 oo 8 (.build [(.int .u64 0), (.int .u64 0), (.int .u8 0), (.int .u8 0), (.int .u8 0), (.int .u8 0), (.int .u8 0), (.int .u8 0), (.int .u8 0), (.int .u8 0), (.int .u8 0), (.int .u8 0), (.string ⟨#[]⟩)] []),
 b2 9 .eql 54 (tm 7) (tm 8) 54 4,
 mo 2 (tm 9)])
 .ret)
 .skip))
 (.seq (.keep [1])
 (.seq (.reg [fa 10 0 (tm 1),
 l1 11 (tm 10),
 b2 12 .eql 5 (tm 11) (kb 3) 5 4,
 mo 13 (tm 12),
 ⟨(some 14), (some (13, true)), .fadr 1 (tm 1)⟩,
 ⟨(some 15), (some (13, true)), .ld1 (tm 14)⟩,
 ⟨(some 16), (some (13, true)), .prim ⟨none, (.binOp .eql 22 (tm 15) (ku 0) 22), 4, "", #[], none⟩⟩,
 oo 17 (.pick (tm 13) (tm 16) (kB false)),
 mo 18 (tm 17),
 ⟨(some 19), (some (18, true)), .fadr 2 (tm 1)⟩,
 ⟨(some 20), (some (18, true)), .ld1 (tm 19)⟩,
 ⟨(some 21), (some (18, true)), .prim ⟨none, (.binOp .eql 5 (tm 20) (kb 0) 5), 4, "", #[], none⟩⟩,
 oo 22 (.pick (tm 18) (tm 21) (kB false)),
 mo 23 (tm 22),
 ⟨(some 24), (some (23, true)), .fadr 3 (tm 1)⟩,
 ⟨(some 25), (some (23, true)), .ldn 13 (tm 24)⟩,
 ⟨(some 26), (some (23, true)), .call 114 [(tm 25)]⟩,
 oo 27 (.pick (tm 23) (tm 26) (kB false)),
 mo 2 (tm 27)])
 (.seq (.keep [2])
 .ret)))))⟩

def lf67 : LFunc := ⟨2, [.tmp 4],
 (.seq (.reg [mo 4 (ki 0)])
 (.seq (.block 0 (.seq (.reg [mo 6 (tm 0),
 oo 7 (.cmpref 0 false (tm 6) (.const (.pointer none))),
 mo 8 (tm 7),
 ⟨(some 9), (some (8, false)), .mv (tm 1)⟩,
 ⟨(some 10), (some (8, false)), .cmpref 0 false (tm 9) (.const (.pointer none))⟩,
 oo 11 (.pick (tm 8) (kB true) (tm 10)),
 mo 5 (tm 11)])
 (.cond (tm 5) (.seq (.reg [mo 4 (ki 2)])
 .ret)
 (.seq (.reg [mo 13 (tm 0),
 ca 14 96 [(tm 13)],
 mo 12 (tm 14)])
 (.cond (tm 12) (.seq (.reg [mo 4 (ki 7)])
 .ret)
 .skip)))))
 (.seq (.keep [])
 (.seq (.reg [mo 4 (ki 0)])
 .ret))))⟩

def lf68 : LFunc := ⟨2, [.tmp 4],
 (.seq (.reg [mo 4 (kB false)])
 (.seq (.reg [mo 5 (tm 0),
 mo 6 (tm 1),
 ca 7 115 [(tm 5), (tm 6)],
 b2 8 .geq 3 (tm 7) (ki 0) 3 4,
 mo 4 (tm 8)])
 .ret))⟩

def lp69x0 : LCode := .loop (.seq (.keep [4, 8, 9, 10])
 (.seq (.reg [b2 11 .lss 3 (tm 10) (tm 9) 3 0])
 (.seq (.cond (tm 11) .skip
 (.exit 0))
 (.seq (.keep [4, 8, 9, 10])
 (.seq (.block 1 (.seq (.reg [is 12 16 (tm 8) (tm 10),
 l2 13 16 (tm 12),
 oo 6 (.alloc [(.int .u8 0), (.int .u64 0), (.int .u8 0), (.int .u64 0), (.int .u64 0), (.int .u8 0), (.int .u8 0), (.int .u8 0), (.int .u8 0), (.int .u8 0), (.int .u8 0), (.int .u8 0), (.int .u8 0), (.int .u8 0), (.int .u8 0), (.string ⟨#[]⟩)]),
 sr 16 (tm 6) (tm 13)])
 (.seq (.reg [l2 14 16 (tm 6),
 ca 15 116 [(tm 14)],
 mo 7 (tm 15)])
 (.seq (.seq (.reg [mo 16 (tm 7),
 b2 17 .eql 9 (tm 16) (.const (.string ⟨#[]⟩)) 9 4])
 (.cond (tm 17) (.seq (.reg [mo 2 (.const (.slice none 0 0)),
 mo 3 (kB false)])
 .ret)
 .skip))
 (.seq (.keep [4, 7, 8, 9, 10])
 (.reg [mo 18 (tm 4),
 mo 19 (tm 7),
 oo 20 (.bslice 1 1 [(.string ⟨#[]⟩)] [(0, 1, (tm 19))]),
 ap 21 1 16 (tm 18) (tm 20),
 mo 4 (tm 21)]))))))
 (.seq (.keep [4, 8, 9, 10])
 (.reg [b2 22 .add 3 (tm 10) (ki 1) 3 3,
 mo 10 (tm 22)])))))))

def lf69 : LFunc := ⟨1, [.tmp 2, .tmp 3],
 (.seq (.reg [mo 2 (.const (.slice none 0 0)),
 mo 3 (kB false)])
 (.seq (.reg [mo 4 (.const (.slice none 0 0))])
 (.seq (.seq (.reg [mo 8 (tm 0),
 le 9 false (tm 8),
 mo 10 (ki 0)])
 (.block 0 lp69x0))
 (.seq (.keep [4])
 (.seq (.reg [mo 23 (tm 4),
 mo 2 (tm 23),
 mo 3 (kB true)])
 .ret)))))⟩

def lp70x0 : LCode := .loop (.seq (.keep [0, 8, 9, 10])
 (.seq (.reg [b2 11 .lss 3 (tm 10) (tm 9) 3 0])
 (.seq (.cond (tm 11) .skip
 (.exit 0))
 (.seq (.keep [0, 8, 9, 10])
 (.seq (.block 1 (.seq (.reg [is 12 1 (tm 8) (tm 10),
 l1 13 (tm 12),
 mo 6 (tm 13)])
 (.seq (.dreg [mo 14 (tm 0),
 nc 15 (tm 14),
 fa 16 0 (tm 15),
 l1 17 (tm 16),
 mo 18 (tm 0),
 nc 19 (tm 18),
 fa 20 2 (tm 19),
 l1 21 (tm 20),
 ca 22 31 [(tm 21)],
 mo 23 (tm 0),
 nc 24 (tm 23),
 fa 25 1 (tm 24),
 l1 26 (tm 25),
 mo 27 (tm 6),
 ca 28 117 [(tm 26), (tm 27)],
 ca 29 57 [(tm 17), (tm 22), (tm 28)],
 mo 7 (tm 29)] [(3, 0, 2), (12, 0, 1)])
 (.seq (.keep [0, 7, 8, 9, 10])
 (.seq (.reg [mo 30 (tm 7),
 b2 31 .neq 39 (tm 30) (ki 0) 39 4])
 (.cond (tm 31) (.seq (.reg [mo 32 (tm 7),
 mo 4 (tm 32)])
 .ret)
 .skip))))))
 (.seq (.keep [0, 8, 9, 10])
 (.reg [b2 33 .add 3 (tm 10) (ki 1) 3 3,
 mo 10 (tm 33)])))))))

def lf70 : LFunc := ⟨2, [.tmp 4],
 (.seq (.reg [mo 4 (ki 0)])
 (.seq (.seq (.reg [mo 8 (tm 1),
 le 9 false (tm 8),
 mo 10 (ki 0)])
 (.block 0 lp70x0))
 (.seq (.keep [0])
 (.seq (.dreg [mo 34 (tm 0),
 nc 35 (tm 34),
 fa 36 0 (tm 35),
 l1 37 (tm 36),
 mo 38 (tm 0),
 nc 39 (tm 38),
 fa 40 2 (tm 39),
 l1 41 (tm 40),
 ca 42 31 [(tm 41)],
 ca 43 111 [(tm 37), (tm 42)],
 mo 4 (tm 43)] [(3, 0, 1)])
 (.seq (.keep [4])
 .ret)))))⟩

def lf71 : LFunc := ⟨2, [.tmp 4],
 (.seq (.reg [mo 4 (.const (.string ⟨#[]⟩))])
 (.seq (.dreg [oo 5 (.bslice 1 1 [(.int .u8 0)] [(0, 1, (kb 1))]),
 oo 6 (.cvbs (tm 5)),
 mo 7 (tm 0),
 cv 8 3 22 (tm 7) 22,
 mo 9 (tm 1),
 oo 10 (.bslice 1 2 [(.int .u64 0)] [(0, 1, (tm 8)), (1, 1, (tm 9))]),
 ca 11 118 [(tm 10)],
 b2 12 .add 9 (tm 6) (tm 11) 9 9,
 mo 4 (tm 12)] [(1, 0, 1)])
 (.seq (.keep [4])
 .ret)))⟩

def lf72 : LFunc := ⟨1, [.tmp 2],
 (.seq (.reg [mo 2 (kB false)])
 (.seq (.reg [mo 3 (tm 0),
 oo 4 (.cmpref 0 false (tm 3) (.const (.pointer none))),
 mo 5 (tm 4),
 ⟨(some 6), (some (5, false)), .mv (tm 0)⟩,
 ⟨(some 7), (some (5, false)), .nilck (tm 6)⟩,
 ⟨(some 8), (some (5, false)), .fadr 0 (tm 7)⟩,
 ⟨(some 9), (some (5, false)), .ld1 (tm 8)⟩,
 ⟨(some 10), (some (5, false)), .cmpref 2 false (tm 9) (.const (.map none))⟩,
 oo 11 (.pick (tm 5) (kB true) (tm 10)),
 mo 2 (tm 11)])
 (.seq (.keep [2])
 .ret)))⟩

def lf73 : LFunc := ⟨3, [.ldn 6 4],
 (.seq (.reg [oo 3 (.box (tm 0)),
 oo 4 (.box (tm 1)),
 oo 6 (.alloc [(.slice none 0 0), (.int .i64 0), (.bool false), (.string ⟨#[]⟩)])])
 (.seq (.reg [mo 7 (ki 0)])
 (.seq (.seq (.reg [mo 11 (tm 2),
 fa 12 0 (tm 4),
 l1 13 (tm 12),
 le 14 false (tm 13),
 b2 15 .lss 3 (tm 11) (tm 14) 3 4])
 (.cond (tm 15) (.dreg [fa 16 0 (tm 4),
 l1 17 (tm 16),
 mo 18 (tm 2),
 is 19 1 (tm 17) (tm 18),
 l1 20 (tm 19),
 oo 21 (.prim ⟨none, (.call ⟨.builtin .max, #[(tm 20), (ki 0)], #[3, 3]⟩), 3, "", #[], none⟩),
 fa 22 0 (tm 3),
 l1 23 (tm 22),
 le 24 false (tm 23),
 fa 25 1 (tm 3),
 l1 26 (tm 25),
 b2 27 .sub 3 (tm 24) (tm 26) 3 3,
 oo 28 (.prim ⟨none, (.call ⟨.builtin .min, #[(tm 21), (tm 27)], #[3, 3]⟩), 3, "", #[], none⟩),
 mo 7 (tm 28)] [])
 .skip))
 (.seq (.keep [2, 3, 4, 6, 7])
 (.seq (.reg [fa 29 1 (tm 3),
 l1 30 (tm 29),
 mo 31 (tm 7),
 b2 32 .add 3 (tm 30) (tm 31) 3 3,
 mo 8 (tm 32)])
 (.seq (.reg [fa 33 2 (tm 3),
 l1 34 (tm 33),
 mo 35 (tm 34),
 ⟨(some 36), (some (35, false)), .mv (tm 8)⟩,
 ⟨(some 37), (some (35, false)), .fadr 0 (tm 3)⟩,
 ⟨(some 38), (some (35, false)), .ld1 (tm 37)⟩,
 ⟨(some 39), (some (35, false)), .len false (tm 38)⟩,
 ⟨(some 40), (some (35, false)), .prim ⟨none, (.binOp .lss 3 (tm 36) (tm 39) 3), 4, "", #[], none⟩⟩,
 oo 41 (.pick (tm 35) (kB true) (tm 40)),
 fa 42 2 (tm 3),
 sr 1 (tm 42) (tm 41)])
 (.seq (.keep [2, 3, 4, 6, 8])
 (.seq (.seq (.reg [mo 43 (tm 8),
 fa 44 0 (tm 3),
 l1 45 (tm 44),
 le 46 false (tm 45),
 b2 47 .lss 3 (tm 43) (tm 46) 3 4,
 mo 48 (tm 47),
 ⟨(some 49), (some (48, true)), .mv (tm 2)⟩,
 ⟨(some 50), (some (48, true)), .fadr 1 (tm 4)⟩,
 ⟨(some 51), (some (48, true)), .ld1 (tm 50)⟩,
 ⟨(some 52), (some (48, true)), .len false (tm 51)⟩,
 ⟨(some 53), (some (48, true)), .prim ⟨none, (.binOp .lss 3 (tm 49) (tm 52) 3), 4, "", #[], none⟩⟩,
 oo 54 (.pick (tm 48) (tm 53) (kB false))])
 (.seq (.keep [2, 3, 4, 6, 8, 54])
 (.cond (tm 54) (.seq (.reg [fa 55 0 (tm 3),
 l1 56 (tm 55),
 mo 57 (tm 8),
 is 58 1 (tm 56) (tm 57),
 l1 59 (tm 58),
 mo 9 (tm 59)])
 (.seq (.reg [fa 60 1 (tm 4),
 l1 61 (tm 60),
 mo 62 (tm 2),
 is 63 1 (tm 61) (tm 62),
 l1 64 (tm 63),
 mo 65 (tm 9),
 ln 66 (tm 65) 9 3,
 b2 67 .rem 3 (tm 64) (tm 66) 3 3,
 mo 10 (tm 67)])
 (.seq (.keep [3, 6, 8, 9, 10])
 (.seq (.seq (.reg [mo 68 (tm 10),
 b2 69 .lss 3 (tm 68) (ki 0) 3 4])
 (.cond (tm 69) (.reg [mo 70 (tm 10),
 mo 71 (tm 9),
 ln 72 (tm 71) 9 3,
 b2 73 .add 3 (tm 70) (tm 72) 3 3,
 mo 10 (tm 73)])
 .skip))
 (.seq (.keep [3, 6, 8, 9, 10])
 (.reg [mo 74 (tm 9),
 mo 75 (tm 10),
 oo 76 (.slcs (tm 74) none (some (tm 75))),
 fa 77 3 (tm 3),
 sr 1 (tm 77) (tm 76)]))))))
 .skip)))
 (.seq (.keep [3, 6, 8])
 (.seq (.reg [fa 78 0 (tm 3),
 l1 79 (tm 78),
 mo 80 (tm 8),
 oo 81 (.slcl 1 (tm 79) none (some (tm 80)) none),
 ca 82 104 [(tm 81)],
 fa 83 0 (tm 3),
 sr 1 (tm 83) (tm 82)])
 (.seq (.reg [mo 84 (tm 8),
 fa 85 1 (tm 3),
 sr 1 (tm 85) (tm 84)])
 (.seq (.reg [l2 86 4 (tm 3),
 sr 4 (tm 6) (tm 86)])
 .ret))))))))))))⟩

def lf74 : LFunc := ⟨2, [.tmp 4, .tmp 5],
 (.seq (.reg [mo 4 (.const (.string ⟨#[]⟩)),
 mo 5 (ki 0)])
 (.seq (.reg [mo 14 (tm 1),
 ca 15 119 [(tm 14)],
 mo 13 (tm 15),
 ex 16 (tm 13) 0,
 ex 17 (tm 13) 1,
 ex 18 (tm 13) 2,
 mo 6 (tm 16),
 mo 7 (tm 17),
 mo 8 (tm 18)])
 (.seq (.keep [0, 1, 6, 7, 8])
 (.seq (.seq (.reg [mo 19 (tm 8),
 u1 20 .not 4 (tm 19) 4,
 mo 21 (tm 20),
 ⟨(some 22), (some (21, false)), .mv (tm 1)⟩,
 ⟨(some 23), (some (21, false)), .prim ⟨none, (.call ⟨.builtin .len, #[(tm 22)], #[9]⟩), 3, "", #[], none⟩⟩,
 ⟨(some 24), (some (21, false)), .mv (tm 7)⟩,
 ⟨(some 25), (some (21, false)), .prim ⟨none, (.binOp .sub 3 (tm 23) (tm 24) 3), 3, "", #[], none⟩⟩,
 ⟨(some 26), (some (21, false)), .prim ⟨none, (.binOp .lss 3 (tm 25) (ki 4) 3), 4, "", #[], none⟩⟩,
 oo 27 (.pick (tm 21) (kB true) (tm 26)),
 mo 28 (tm 27),
 ⟨(some 29), (some (28, false)), .mv (tm 6)⟩,
 ⟨(some 30), (some (28, false)), .mv (tm 1)⟩,
 ⟨(some 31), (some (28, false)), .prim ⟨none, (.call ⟨.builtin .len, #[(tm 30)], #[9]⟩), 3, "", #[], none⟩⟩,
 ⟨(some 32), (some (28, false)), .mv (tm 7)⟩,
 ⟨(some 33), (some (28, false)), .prim ⟨none, (.binOp .sub 3 (tm 31) (tm 32) 3), 3, "", #[], none⟩⟩,
 ⟨(some 34), (some (28, false)), .prim ⟨none, (.binOp .sub 3 (tm 33) (ki 4) 3), 3, "", #[], none⟩⟩,
 ⟨(some 35), (some (28, false)), .prim ⟨none, (.convert 3 22 (tm 34)), 22, "", #[], none⟩⟩,
 ⟨(some 36), (some (28, false)), .prim ⟨none, (.binOp .gtr 22 (tm 29) (tm 35) 22), 4, "", #[], none⟩⟩,
 oo 37 (.pick (tm 28) (kB true) (tm 36))])
 (.seq (.keep [0, 1, 6, 7, 37])
 (.cond (tm 37) (.seq (.reg [mo 4 (.const (.string ⟨#[]⟩)),
 mo 5 (ki 0)])
 .ret)
 .skip)))
 (.seq (.keep [0, 1, 6, 7])
 (.seq (.reg [mo 38 (tm 7),
 b2 39 .add 3 (tm 38) (ki 4) 3 3,
 mo 40 (tm 6),
 cv 41 22 3 (tm 40) 3,
 b2 42 .add 3 (tm 39) (tm 41) 3 3,
 mo 9 (tm 42)])
 (.seq (.reg [mo 44 (tm 1),
 mo 45 (tm 7),
 oo 46 (.slcs (tm 44) (some (tm 45)) none),
 ca 47 120 [(tm 46), (ki 4)],
 mo 43 (tm 47),
 ex 48 (tm 43) 0,
 ex 49 (tm 43) 1,
 mo 10 (tm 48),
 mo 11 (tm 49)])
 (.seq (.keep [0, 1, 7, 9, 10])
 (.seq (.reg [mo 50 (tm 1),
 mo 51 (tm 7),
 b2 52 .add 3 (tm 51) (ki 4) 3 3,
 mo 53 (tm 9),
 oo 54 (.slcs (tm 50) (some (tm 52)) (some (tm 53))),
 mo 12 (tm 54)])
 (.seq (.seq (.reg [mo 55 (tm 10),
 mo 56 (tm 0),
 mo 57 (tm 12),
 oo 58 (.bslice 1 1 [(.string ⟨#[]⟩)] [(0, 1, (tm 57))]),
 ca 59 121 [(tm 56), (tm 58)],
 cv 60 33 22 (tm 59) 22,
 b2 61 .neq 22 (tm 55) (tm 60) 22 4])
 (.cond (tm 61) (.seq (.reg [mo 4 (.const (.string ⟨#[]⟩)),
 mo 5 (ki 0)])
 .ret)
 .skip))
 (.seq (.keep [9, 12])
 (.seq (.reg [mo 62 (tm 12),
 mo 63 (tm 9),
 mo 4 (tm 62),
 mo 5 (tm 63)])
 .ret))))))))))))⟩

def lf75 : LFunc := ⟨1, [.tmp 2, .tmp 3, .tmp 4],
 (.seq (.reg [mo 2 (ku 0),
 mo 3 (ku 0),
 mo 4 (kB false)])
 (.seq (.seq (.reg [mo 7 (tm 0),
 b2 8 .eql 9 (tm 7) (.const (.string ⟨#[]⟩)) 9 4,
 mo 9 (tm 8),
 ⟨(some 10), (some (9, false)), .mv (tm 0)⟩,
 ⟨(some 11), (some (9, false)), .prim ⟨none, (.index 9 (tm 10) (ki 0)), 5, "", #[], none⟩⟩,
 ⟨(some 12), (some (9, false)), .prim ⟨none, (.binOp .neq 5 (tm 11) (kb 1) 5), 4, "", #[], none⟩⟩,
 oo 13 (.pick (tm 9) (kB true) (tm 12))])
 (.cond (tm 13) (.seq (.reg [mo 2 (ku 0),
 mo 3 (ku 0),
 mo 4 (kB false)])
 .ret)
 .skip))
 (.seq (.keep [0])
 (.seq (.reg [mo 15 (tm 0),
 oo 16 (.slcs (tm 15) (some (ki 1)) none),
 ca 17 119 [(tm 16)],
 mo 14 (tm 17),
 ex 18 (tm 14) 0,
 ex 19 (tm 14) 1,
 ex 20 (tm 14) 2,
 mo 2 (tm 18),
 mo 5 (tm 19),
 mo 4 (tm 20)])
 (.seq (.keep [0, 2, 4, 5])
 (.seq (.seq (.reg [mo 21 (tm 4),
 u1 22 .not 4 (tm 21) 4])
 (.cond (tm 22) (.seq (.reg [mo 2 (ku 0),
 mo 3 (ku 0),
 mo 4 (kB false)])
 .ret)
 .skip))
 (.seq (.keep [0, 2, 5])
 (.seq (.reg [mo 24 (tm 0),
 mo 25 (tm 5),
 b2 26 .add 3 (ki 1) (tm 25) 3 3,
 oo 27 (.slcs (tm 24) (some (tm 26)) none),
 ca 28 119 [(tm 27)],
 mo 23 (tm 28),
 ex 29 (tm 23) 0,
 ex 30 (tm 23) 1,
 ex 31 (tm 23) 2,
 mo 3 (tm 29),
 mo 6 (tm 30),
 mo 4 (tm 31)])
 (.seq (.keep [0, 2, 3, 4, 5, 6])
 (.seq (.reg [mo 32 (tm 2),
 mo 33 (tm 3),
 mo 34 (tm 4),
 mo 35 (tm 34),
 ⟨(some 36), (some (35, true)), .mv (tm 0)⟩,
 ⟨(some 37), (some (35, true)), .prim ⟨none, (.call ⟨.builtin .len, #[(tm 36)], #[9]⟩), 3, "", #[], none⟩⟩,
 ⟨(some 38), (some (35, true)), .mv (tm 5)⟩,
 ⟨(some 39), (some (35, true)), .prim ⟨none, (.binOp .add 3 (ki 1) (tm 38) 3), 3, "", #[], none⟩⟩,
 ⟨(some 40), (some (35, true)), .mv (tm 6)⟩,
 ⟨(some 41), (some (35, true)), .prim ⟨none, (.binOp .add 3 (tm 39) (tm 40) 3), 3, "", #[], none⟩⟩,
 ⟨(some 42), (some (35, true)), .prim ⟨none, (.binOp .eql 3 (tm 37) (tm 41) 3), 4, "", #[], none⟩⟩,
 oo 43 (.pick (tm 35) (tm 42) (kB false)),
 mo 2 (tm 32),
 mo 3 (tm 33),
 mo 4 (tm 43)])
 (.seq (.keep [2, 3, 4])
 .ret)))))))))))⟩

def lf76 : LFunc := ⟨1, [.ldn 2 16, .tmp 3],
 (.seq (.reg [oo 2 (.alloc [(.int .u8 0), (.int .u64 0), (.int .u8 0), (.int .u64 0), (.int .u64 0), (.int .u8 0), (.int .u8 0), (.int .u8 0), (.int .u8 0), (.int .u8 0), (.int .u8 0), (.int .u8 0), (.int .u8 0), (.int .u8 0), (.int .u8 0), (.string ⟨#[]⟩)]),
 mo 3 (kB false)])
 (.seq (.seq (.reg [mo 11 (tm 0),
 b2 12 .eql 9 (tm 11) (.const (.string ⟨#[]⟩)) 9 4])
 (.cond (tm 12) (.seq (.reg [oo 13 (.build [(.int .u8 0), (.int .u64 0), (.int .u8 0), (.int .u64 0), (.int .u64 0), (.int .u8 0), (.int .u8 0), (.int .u8 0), (.int .u8 0), (.int .u8 0), (.int .u8 0), (.int .u8 0), (.int .u8 0), (.int .u8 0), (.int .u8 0), (.string ⟨#[]⟩)] []),
 sr 16 (tm 2) (tm 13),
 mo 3 (kB false)])
 .ret)
 .skip))
 (.seq (.keep [0, 2])
 (.seq (.reg [mo 14 (tm 0),
 ix 15 9 (tm 14) (ki 0) 5,
 oo 16 (.build [(.int .u8 0), (.int .u64 0), (.int .u8 0), (.int .u64 0), (.int .u64 0), (.int .u8 0), (.int .u8 0), (.int .u8 0), (.int .u8 0), (.int .u8 0), (.int .u8 0), (.int .u8 0), (.int .u8 0), (.int .u8 0), (.int .u8 0), (.string ⟨#[]⟩)] [(0, 1, (tm 15))]),
 oo 4 (.alloc [(.int .u8 0), (.int .u64 0), (.int .u8 0), (.int .u64 0), (.int .u64 0), (.int .u8 0), (.int .u8 0), (.int .u8 0), (.int .u8 0), (.int .u8 0), (.int .u8 0), (.int .u8 0), (.int .u8 0), (.int .u8 0), (.int .u8 0), (.string ⟨#[]⟩)]),
 sr 16 (tm 4) (tm 16)])
 (.seq (.reg [mo 17 (tm 0),
 oo 18 (.slcs (tm 17) (some (ki 1)) none),
 mo 5 (tm 18)])
 (.seq (.seq (.reg [fa 19 0 (tm 4),
 l1 20 (tm 19)])
 (.block 0 (.seq (.reg [b2 22 .eql 5 (tm 20) (kb 2) 5 4,
 mo 21 (tm 22)])
 (.cond (tm 21) (.seq (.reg [mo 24 (tm 5),
 ca 25 119 [(tm 24)],
 mo 23 (tm 25),
 ex 26 (tm 23) 0,
 ex 27 (tm 23) 1,
 ex 28 (tm 23) 2,
 mo 6 (tm 26),
 mo 7 (tm 27),
 mo 8 (tm 28)])
 (.seq (.keep [2, 4, 5, 6, 7, 8])
 (.seq (.seq (.reg [mo 29 (tm 8),
 u1 30 .not 4 (tm 29) 4,
 mo 31 (tm 30),
 ⟨(some 32), (some (31, false)), .mv (tm 5)⟩,
 ⟨(some 33), (some (31, false)), .prim ⟨none, (.call ⟨.builtin .len, #[(tm 32)], #[9]⟩), 3, "", #[], none⟩⟩,
 ⟨(some 34), (some (31, false)), .mv (tm 7)⟩,
 ⟨(some 35), (some (31, false)), .prim ⟨none, (.binOp .add 3 (tm 34) (ki 1) 3), 3, "", #[], none⟩⟩,
 ⟨(some 36), (some (31, false)), .prim ⟨none, (.binOp .neq 3 (tm 33) (tm 35) 3), 4, "", #[], none⟩⟩,
 oo 37 (.pick (tm 31) (kB true) (tm 36))])
 (.seq (.keep [2, 4, 5, 6, 7, 37])
 (.cond (tm 37) (.seq (.reg [oo 38 (.build [(.int .u8 0), (.int .u64 0), (.int .u8 0), (.int .u64 0), (.int .u64 0), (.int .u8 0), (.int .u8 0), (.int .u8 0), (.int .u8 0), (.int .u8 0), (.int .u8 0), (.int .u8 0), (.int .u8 0), (.int .u8 0), (.int .u8 0), (.string ⟨#[]⟩)] []),
 sr 16 (tm 2) (tm 38),
 mo 3 (kB false)])
 .ret)
 .skip)))
 (.seq (.keep [2, 4, 5, 6, 7])
 (.seq (.dreg [mo 39 (tm 6),
 mo 40 (tm 5),
 mo 41 (tm 7),
 ix 42 9 (tm 40) (tm 41) 5,
 fa 43 1 (tm 4),
 sr 1 (tm 43) (tm 39),
 fa 44 2 (tm 4),
 sr 1 (tm 44) (tm 42)] [])
 (.seq (.keep [2, 4])
 (.seq (.reg [l2 45 16 (tm 4),
 sr 16 (tm 2) (tm 45),
 mo 3 (kB true)])
 .ret)))))))
 (.seq (.reg [b2 47 .eql 5 (tm 20) (kb 3) 5 4,
 mo 46 (tm 47)])
 (.cond (tm 46) (.seq (.reg [mo 49 (tm 5),
 ca 50 122 [(tm 49)],
 mo 48 (tm 50),
 ex 51 (tm 48) 0,
 ex 52 (tm 48) 1,
 oo 9 (.alloc [(.int .u64 0), (.int .u64 0), (.int .u8 0), (.int .u8 0), (.int .u8 0), (.int .u8 0), (.int .u8 0), (.int .u8 0), (.int .u8 0), (.int .u8 0), (.int .u8 0), (.int .u8 0), (.string ⟨#[]⟩)]),
 sr 13 (tm 9) (tm 51),
 mo 10 (tm 52)])
 (.seq (.keep [2, 4, 9, 10])
 (.seq (.reg [l2 53 13 (tm 9),
 fa 54 3 (tm 4),
 sr 13 (tm 54) (tm 53)])
 (.seq (.seq (.reg [mo 55 (tm 10),
 u1 56 .not 4 (tm 55) 4])
 (.cond (tm 56) (.seq (.reg [oo 57 (.build [(.int .u8 0), (.int .u64 0), (.int .u8 0), (.int .u64 0), (.int .u64 0), (.int .u8 0), (.int .u8 0), (.int .u8 0), (.int .u8 0), (.int .u8 0), (.int .u8 0), (.int .u8 0), (.int .u8 0), (.int .u8 0), (.int .u8 0), (.string ⟨#[]⟩)] []),
 sr 16 (tm 2) (tm 57),
 mo 3 (kB false)])
 .ret)
 .skip))
 (.seq (.keep [2, 4])
 (.seq (.reg [l2 58 16 (tm 4),
 sr 16 (tm 2) (tm 58),
 mo 3 (kB true)])
 .ret))))))
 .skip))))))
 (.seq (.keep [2])
 (.seq (.reg [oo 59 (.build [(.int .u8 0), (.int .u64 0), (.int .u8 0), (.int .u64 0), (.int .u64 0), (.int .u8 0), (.int .u8 0), (.int .u8 0), (.int .u8 0), (.int .u8 0), (.int .u8 0), (.int .u8 0), (.int .u8 0), (.int .u8 0), (.int .u8 0), (.string ⟨#[]⟩)] []),
 sr 16 (tm 2) (tm 59),
 mo 3 (kB false)])
 .ret))))))))⟩

def lp77x0 : LCode := .loop (.seq (.keep [0, 1, 5])
 (.seq (.seq (.reg [mo 11 (tm 5),
 mo 12 (tm 0),
 le 13 false (tm 12),
 b2 14 .lss 3 (tm 11) (tm 13) 3 4])
 (.cond (tm 14) .skip
 (.exit 0)))
 (.seq (.keep [0, 1, 5])
 (.seq (.block 1 (.seq (.dreg [mo 17 (tm 0),
 mo 18 (tm 5),
 is 19 16 (tm 17) (tm 18),
 l2 20 16 (tm 19),
 mo 21 (tm 1),
 mo 22 (tm 5),
 is 23 16 (tm 21) (tm 22),
 l2 24 16 (tm 23),
 b2 25 .neq 56 (tm 20) (tm 24) 56 4] [])
 (.seq (.keep [0, 1, 5, 25])
 (.cond (tm 25) (.seq (.reg [mo 4 (kB false)])
 .ret)
 .skip))))
 (.seq (.keep [0, 1, 5])
 (.reg [mo 15 (tm 5),
 b2 16 .add 3 (tm 15) (ki 1) 3 3,
 mo 5 (tm 16)]))))))

def lf77 : LFunc := ⟨2, [.tmp 4],
 (.seq (.reg [mo 4 (kB false)])
 (.seq (.seq (.reg [mo 6 (tm 0),
 le 7 false (tm 6),
 mo 8 (tm 1),
 le 9 false (tm 8),
 b2 10 .neq 3 (tm 7) (tm 9) 3 4])
 (.cond (tm 10) (.seq (.reg [mo 4 (kB false)])
 .ret)
 .skip))
 (.seq (.keep [0, 1])
 (.seq (.seq (.reg [mo 5 (ki 0)])
 (.block 0 lp77x0))
 (.seq (.keep [])
 (.seq (.reg [mo 4 (kB true)])
 .ret))))))⟩

def lf79 : LFunc := ⟨2, [.tmp 4],
 (.seq (.reg [mo 4 (.const (.string ⟨#[]⟩))])
 (.seq (.reg [mo 5 (tm 0),
 mo 6 (tm 1),
 ca 7 125 [(tm 5), (tm 6)],
 mo 4 (tm 7)])
 .ret))⟩

def lf80 : LFunc := ⟨2, [.tmp 4],
 (.seq (.reg [mo 4 (.const (.string ⟨#[]⟩))])
 (.seq (.reg [mo 5 (tm 0),
 mo 6 (tm 1),
 ca 7 126 [(tm 5), (tm 6)],
 mo 4 (tm 7)])
 .ret))⟩

def lf82 : LFunc := ⟨1, [],
 (.seq (.reg [mo 3 (tm 0),
 le 4 false (tm 3),
 mo 2 (tm 4)])
 (.reg [mo 5 (tm 0),
 mo 6 (tm 2),
 mo 7 (tm 2),
 cv 8 3 135 (tm 7) 135,
 ca 9 134 [(tm 8)],
 ca 10 133 [(tm 5), (ki 0), (tm 6), (tm 9)]]))⟩

def lf83 : LFunc := ⟨1, [.tmp 2],
 (.seq (.reg [mo 2 (ki 0)])
 (.seq (.block 0 (.seq (.reg [mo 4 (tm 0),
 ca 5 72 [(tm 4)],
 mo 3 (tm 5)])
 (.cond (tm 3) (.seq (.reg [mo 2 (ki 2)])
 .ret)
 (.seq (.reg [mo 7 (tm 0),
 nc 8 (tm 7),
 fa 9 1 (tm 8),
 l1 10 (tm 9),
 mo 6 (tm 10)])
 (.cond (tm 6) (.seq (.reg [mo 2 (ki 7)])
 .ret)
 .skip)))))
 (.seq (.keep [])
 (.seq (.reg [mo 2 (ki 0)])
 .ret))))⟩

def lf85 : LFunc := ⟨2, [.tmp 4, .tmp 5],
 (.seq (.reg [mo 4 (ki 0),
 mo 5 (ki 0)])
 (.seq (.seq (.reg [mo 7 (tm 0),
 ca 8 72 [(tm 7)]])
 (.cond (tm 8) (.seq (.reg [mo 4 (ki 0),
 mo 5 (ki 0)])
 .ret)
 .skip))
 (.seq (.keep [0, 1])
 (.seq (.reg [mo 9 (tm 0),
 nc 10 (tm 9),
 fa 11 0 (tm 10),
 l1 12 (tm 11),
 mo 13 (tm 1),
 oo 14 (.look 9 (.agg #[(.slice none 0 0), (.int .i64 0), (.bool false), (.string ⟨#[]⟩)]) (tm 12) (tm 13) false),
 oo 6 (.alloc [(.slice none 0 0), (.int .i64 0), (.bool false), (.string ⟨#[]⟩)]),
 sr 4 (tm 6) (tm 14)])
 (.seq (.keep [6])
 (.seq (.dreg [fa 15 0 (tm 6),
 l1 16 (tm 15),
 le 17 false (tm 16),
 fa 18 1 (tm 6),
 l1 19 (tm 18),
 mo 4 (tm 17),
 mo 5 (tm 19)] [])
 .ret))))))⟩

def lp86x0 : LCode := .loop (.seq (.keep [0, 3, 4])
 (.seq (.seq (.reg [mo 8 (tm 4),
 mo 9 (tm 0),
 le 10 false (tm 9),
 b2 11 .lss 3 (tm 8) (tm 10) 3 4])
 (.cond (tm 11) .skip
 (.exit 0)))
 (.seq (.keep [0, 3, 4])
 (.seq (.block 1 (.seq (.seq (.reg [mo 14 (tm 0),
 mo 15 (tm 4),
 is 16 6 (tm 14) (tm 15),
 fa 17 1 (tm 16),
 l1 18 (tm 17),
 ln 19 (tm 18) 9 3,
 b2 20 .gtr 3 (tm 19) (ki 20000) 3 4,
 mo 21 (tm 20),
 ⟨(some 22), (some (21, false)), .mv (tm 0)⟩,
 ⟨(some 23), (some (21, false)), .mv (tm 4)⟩,
 ⟨(some 24), (some (21, false)), .iadrs 6 (tm 22) (tm 23)⟩,
 ⟨(some 25), (some (21, false)), .fadr 2 (tm 24)⟩,
 ⟨(some 26), (some (21, false)), .ld1 (tm 25)⟩,
 ⟨(some 27), (some (21, false)), .prim ⟨none, (.call ⟨.builtin .len, #[(tm 26)], #[9]⟩), 3, "", #[], none⟩⟩,
 ⟨(some 28), (some (21, false)), .prim ⟨none, (.binOp .gtr 3 (tm 27) (ki 20000) 3), 4, "", #[], none⟩⟩,
 oo 29 (.pick (tm 21) (kB true) (tm 28)),
 mo 30 (tm 29),
 ⟨(some 31), (some (30, false)), .mv (tm 0)⟩,
 ⟨(some 32), (some (30, false)), .mv (tm 4)⟩,
 ⟨(some 33), (some (30, false)), .iadrs 6 (tm 31) (tm 32)⟩,
 ⟨(some 34), (some (30, false)), .fadr 4 (tm 33)⟩,
 ⟨(some 35), (some (30, false)), .ldn 2 (tm 34)⟩,
 ⟨(some 36), (some (30, false)), .call 16 [(tm 35)]⟩,
 oo 37 (.pick (tm 30) (kB true) (tm 36))])
 (.seq (.keep [0, 3, 4, 37])
 (.cond (tm 37) (.seq (.reg [mo 2 (kB true)])
 .ret)
 .skip)))
 (.seq (.keep [0, 3, 4])
 (.dreg [mo 38 (tm 3),
 mo 39 (tm 0),
 mo 40 (tm 4),
 is 41 6 (tm 39) (tm 40),
 fa 42 1 (tm 41),
 l1 43 (tm 42),
 ln 44 (tm 43) 9 3,
 b2 45 .add 3 (tm 38) (tm 44) 3 3,
 mo 46 (tm 0),
 mo 47 (tm 4),
 is 48 6 (tm 46) (tm 47),
 fa 49 2 (tm 48),
 l1 50 (tm 49),
 ln 51 (tm 50) 9 3,
 b2 52 .add 3 (tm 45) (tm 51) 3 3,
 mo 3 (tm 52)] []))))
 (.seq (.keep [0, 3, 4])
 (.reg [mo 12 (tm 4),
 b2 13 .add 3 (tm 12) (ki 1) 3 3,
 mo 4 (tm 13)]))))))

def lf86 : LFunc := ⟨1, [.tmp 2],
 (.seq (.reg [mo 2 (kB false)])
 (.seq (.seq (.reg [mo 5 (tm 0),
 le 6 false (tm 5),
 b2 7 .gtr 3 (tm 6) (ki 100) 3 4])
 (.cond (tm 7) (.seq (.reg [mo 2 (kB true)])
 .ret)
 .skip))
 (.seq (.keep [0])
 (.seq (.reg [mo 3 (ki 0)])
 (.seq (.seq (.reg [mo 4 (ki 0)])
 (.block 0 lp86x0))
 (.seq (.keep [3])
 (.seq (.reg [mo 53 (tm 3),
 b2 54 .gtr 3 (tm 53) (ki 20000) 3 4,
 mo 2 (tm 54)])
 .ret)))))))⟩

def lp87x0 : LCode := .loop (.seq (.keep [0, 1, 2, 3, 9])
 (.seq (.seq (.reg [mo 14 (tm 9),
 mo 15 (tm 0),
 nc 16 (tm 15),
 fa 17 0 (tm 16),
 l1 18 (tm 17),
 le 19 false (tm 18),
 b2 20 .lss 3 (tm 14) (tm 19) 3 4])
 (.cond (tm 20) .skip
 (.exit 0)))
 (.seq (.keep [0, 1, 2, 3, 9])
 (.seq (.block 1 (.seq (.dreg [mo 23 (tm 0),
 nc 24 (tm 23),
 fa 25 0 (tm 24),
 l1 26 (tm 25),
 mo 27 (tm 9),
 is 28 5 (tm 26) (tm 27),
 fa 29 0 (tm 28),
 l1 30 (tm 29),
 mo 31 (tm 1),
 ca 32 32 [(tm 31)],
 b2 33 .eql 9 (tm 30) (tm 32) 9 4] [(3, 0, 1), (7, 0, 1)])
 (.seq (.keep [0, 1, 2, 3, 9, 33])
 (.cond (tm 33) (.seq (.reg [mo 8 (ki 5)])
 .ret)
 .skip))))
 (.seq (.keep [0, 1, 2, 3, 9])
 (.reg [mo 21 (tm 9),
 b2 22 .add 3 (tm 21) (ki 1) 3 3,
 mo 9 (tm 22)]))))))

def lf87 : LFunc := ⟨4, [.tmp 8],
 (.seq (.reg [mo 8 (ki 0)])
 (.seq (.seq (.reg [mo 10 (tm 0),
 nc 11 (tm 10),
 fa 12 1 (tm 11),
 l1 13 (tm 12)])
 (.cond (tm 13) (.seq (.reg [mo 8 (ki 7)])
 .ret)
 .skip))
 (.seq (.keep [0, 1, 2, 3])
 (.seq (.seq (.reg [mo 9 (ki 0)])
 (.block 0 lp87x0))
 (.seq (.keep [0, 1, 2, 3])
 (.seq (.seq (.reg [mo 34 (tm 3),
 ca 35 135 [(tm 34)],
 u1 36 .not 4 (tm 35) 4])
 (.cond (tm 36) (.seq (.reg [mo 8 (ki 1)])
 .ret)
 .skip))
 (.seq (.keep [0, 1, 2, 3])
 (.seq (.reg [mo 37 (tm 0),
 mo 38 (tm 1),
 ca 39 32 [(tm 38)],
 mo 40 (tm 3),
 le 41 false (tm 40),
 mo 42 (tm 2),
 ca 43 137 [(tm 41), (tm 42)],
 oo 44 (.bslice 1 1 [(.string ⟨#[]⟩)] [(0, 1, (tm 43))]),
 mo 45 (tm 3),
 ca 46 138 [(tm 45)],
 ap 47 1 16 (tm 44) (tm 46),
 ca 48 136 [(tm 37), (tm 39), (tm 47)],
 mo 8 (tm 48)])
 (.seq (.keep [8])
 .ret)))))))))⟩

def lf88 : LFunc := ⟨3, [.tmp 6],
 (.seq (.reg [mo 6 (ki 0)])
 (.seq (.seq (.reg [mo 7 (tm 0),
 nc 8 (tm 7),
 fa 9 1 (tm 8),
 l1 10 (tm 9)])
 (.cond (tm 10) (.seq (.reg [mo 6 (ki 7)])
 .ret)
 .skip))
 (.seq (.keep [0, 1, 2])
 (.seq (.seq (.reg [mo 11 (tm 2),
 ca 12 135 [(tm 11)],
 u1 13 .not 4 (tm 12) 4])
 (.cond (tm 13) (.seq (.reg [mo 6 (ki 1)])
 .ret)
 .skip))
 (.seq (.keep [0, 1, 2])
 (.seq (.seq (.reg [mo 14 (tm 2),
 le 15 false (tm 14),
 b2 16 .eql 3 (tm 15) (ki 0) 3 4])
 (.cond (tm 16) (.seq (.reg [mo 6 (ki 0)])
 .ret)
 .skip))
 (.seq (.keep [0, 1, 2])
 (.seq (.reg [mo 17 (tm 0),
 mo 18 (tm 1),
 ca 19 32 [(tm 18)],
 mo 20 (tm 2),
 ca 21 138 [(tm 20)],
 ca 22 136 [(tm 17), (tm 19), (tm 21)],
 mo 6 (tm 22)])
 .ret))))))))⟩

def lf89 : LFunc := ⟨2, [.tmp 4, .tmp 5, .tmp 6, .tmp 7],
 (.seq (.reg [mo 4 (ku 0),
 mo 5 (.const (.slice none 0 0)),
 mo 6 (kB false),
 mo 7 (ki 0)])
 (.seq (.reg [mo 14 (tm 0),
 mo 15 (tm 1),
 ca 16 32 [(tm 15)],
 ca 17 139 [(tm 14), (tm 16)],
 mo 13 (tm 17),
 ex 18 (tm 13) 0,
 ex 19 (tm 13) 1,
 mo 8 (tm 18),
 mo 9 (tm 19)])
 (.seq (.keep [8, 9])
 (.seq (.seq (.reg [mo 20 (tm 9),
 b2 21 .neq 39 (tm 20) (ki 0) 39 4])
 (.cond (tm 21) (.seq (.reg [mo 22 (tm 9),
 mo 4 (ku 0),
 mo 5 (.const (.slice none 0 0)),
 mo 6 (kB false),
 mo 7 (tm 22)])
 .ret)
 .skip))
 (.seq (.keep [8])
 (.seq (.reg [mo 24 (tm 8),
 ca 25 140 [(tm 24)],
 mo 23 (tm 25),
 ex 26 (tm 23) 0,
 ex 27 (tm 23) 1,
 ex 28 (tm 23) 2,
 mo 10 (tm 26),
 mo 11 (tm 27),
 mo 12 (tm 28)])
 (.seq (.keep [10, 11, 12])
 (.seq (.reg [mo 29 (tm 10),
 mo 30 (tm 11),
 mo 31 (tm 12),
 mo 4 (tm 29),
 mo 5 (tm 30),
 mo 6 (tm 31),
 mo 7 (ki 0)])
 .ret))))))))⟩

def lf90 : LFunc := ⟨2, [.tmp 4, .tmp 5],
 (.seq (.reg [oo 3 (.box (tm 1)),
 mo 4 (.const (.string ⟨#[]⟩)),
 mo 5 (ki 0)])
 (.seq (.seq (.reg [fa 6 0 (tm 3),
 l1 7 (tm 6)])
 (.block 0 (.seq (.reg [b2 9 .eql 5 (tm 7) (kb 0) 5 4,
 mo 8 (tm 9)])
 (.cond (tm 8) (.seq (.reg [mo 10 (tm 0),
 fa 11 1 (tm 3),
 l1 12 (tm 11),
 fa 13 2 (tm 3),
 l1 14 (tm 13),
 ca 15 57 [(tm 10), (tm 12), (tm 14)],
 mo 4 (.const (.string ⟨#[]⟩)),
 mo 5 (tm 15)])
 (.seq (.keep [4, 5])
 .ret))
 (.seq (.reg [b2 17 .eql 5 (tm 7) (kb 1) 5 4,
 mo 16 (tm 17)])
 (.cond (tm 16) (.seq (.reg [mo 18 (tm 0),
 fa 19 1 (tm 3),
 l1 20 (tm 19),
 ca 21 111 [(tm 18), (tm 20)],
 mo 4 (.const (.string ⟨#[]⟩)),
 mo 5 (tm 21)])
 .ret)
 (.seq (.reg [b2 23 .eql 5 (tm 7) (kb 2) 5 4,
 mo 22 (tm 23)])
 (.cond (tm 22) (.seq (.reg [mo 24 (tm 0),
 fa 25 1 (tm 3),
 l1 26 (tm 25),
 fa 27 2 (tm 3),
 l1 28 (tm 27),
 ca 29 141 [(tm 24), (tm 26), (tm 28)],
 mo 4 (.const (.string ⟨#[]⟩)),
 mo 5 (tm 29)])
 (.seq (.keep [4, 5])
 .ret))
 (.seq (.reg [b2 31 .eql 5 (tm 7) (kb 3) 5 4,
 mo 30 (tm 31)])
 (.cond (tm 30) (.seq (.reg [mo 32 (tm 0),
 fa 33 1 (tm 3),
 l1 34 (tm 33),
 ca 35 100 [(tm 32), (tm 34)],
 mo 4 (.const (.string ⟨#[]⟩)),
 mo 5 (tm 35)])
 .ret)
 (.seq (.reg [b2 37 .eql 5 (tm 7) (kb 4) 5 4,
 mo 36 (tm 37)])
 (.cond (tm 36) (.seq (.reg [mo 38 (tm 0),
 fa 39 1 (tm 3),
 l1 40 (tm 39),
 ca 41 36 [(tm 38), (tm 40)],
 ex 42 (tm 41) 0,
 ex 43 (tm 41) 1,
 mo 4 (tm 42),
 mo 5 (tm 43)])
 (.seq (.keep [4, 5])
 .ret))
 (.seq (.reg [b2 45 .eql 5 (tm 7) (kb 5) 5 4,
 mo 44 (tm 45)])
 (.cond (tm 44) (.reg [mo 46 (tm 0),
 fa 47 3 (tm 3),
 l1 48 (tm 47),
 ca 49 22 [(tm 46), (tm 48)]])
 (.seq (.reg [b2 51 .eql 5 (tm 7) (kb 6) 5 4,
 mo 50 (tm 51)])
 (.cond (tm 50) (.reg [mo 52 (tm 0),
 fa 53 4 (tm 3),
 l2 54 2 (tm 53),
 ca 55 24 [(tm 52), (tm 54)]])
 (.seq (.reg [b2 57 .eql 5 (tm 7) (kb 7) 5 4,
 mo 56 (tm 57)])
 (.cond (tm 56) (.reg [mo 58 (tm 0),
 ca 59 25 [(tm 58)]])
 .skip))))))))))))))))))
 (.seq (.keep [])
 (.seq (.reg [mo 4 (.const (.string ⟨#[]⟩)),
 mo 5 (ki 0)])
 .ret))))⟩

end Go.Proofs.YtfpocoongggehaaGreatDoor
