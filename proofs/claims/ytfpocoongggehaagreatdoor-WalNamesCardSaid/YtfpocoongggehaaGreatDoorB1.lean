/- The lowered forms of the functions on the road. -/
import Derived.Test.YtfpocoongggehaaGreatDoorB1a
set_option linter.all false
namespace Go.Proofs.YtfpocoongggehaaGreatDoor
open Go Go.Abs

def lf91 : LFunc := ⟨2, [.tmp 4, .tmp 5],
 (.seq (.reg [oo 3 (.box (tm 1)),
 mo 4 (.const (.string ⟨#[]⟩)),
 mo 5 (ki 0)])
 (.seq (.seq (.reg [fa 6 0 (tm 3),
 l1 7 (tm 6)])
 (.block 0 (.seq (.reg [b2 9 .eql 5 (tm 7) (kb 0) 5 4,
 mo 8 (tm 9)])
 (.cond (tm 8) (.seq (.reg [mo 10 (tm 0),
 fa 11 1 (tm 3),
 l1 12 (tm 11),
 fa 13 2 (tm 3),
 l1 14 (tm 13),
 ca 15 142 [(tm 10), (tm 12), (tm 14)],
 mo 4 (.const (.string ⟨#[]⟩)),
 mo 5 (tm 15)])
 (.seq (.keep [4, 5])
 .ret))
 (.seq (.reg [b2 17 .eql 5 (tm 7) (kb 1) 5 4,
 mo 16 (tm 17)])
 (.cond (tm 16) (.seq (.reg [mo 18 (tm 0),
 fa 19 1 (tm 3),
 l1 20 (tm 19),
 ca 21 143 [(tm 18), (tm 20)],
 mo 4 (.const (.string ⟨#[]⟩)),
 mo 5 (tm 21)])
 .ret)
 (.seq (.reg [b2 23 .eql 5 (tm 7) (kb 2) 5 4,
 mo 22 (tm 23)])
 (.cond (tm 22) (.seq (.reg [mo 24 (tm 0),
 fa 25 1 (tm 3),
 l1 26 (tm 25),
 fa 27 2 (tm 3),
 l1 28 (tm 27),
 ca 29 144 [(tm 24), (tm 26), (tm 28)],
 mo 4 (.const (.string ⟨#[]⟩)),
 mo 5 (tm 29)])
 (.seq (.keep [4, 5])
 .ret))
 (.seq (.reg [b2 31 .eql 5 (tm 7) (kb 3) 5 4,
 mo 30 (tm 31)])
 (.cond (tm 30) (.seq (.reg [mo 32 (tm 0),
 fa 33 1 (tm 3),
 l1 34 (tm 33),
 ca 35 145 [(tm 32), (tm 34)],
 mo 4 (.const (.string ⟨#[]⟩)),
 mo 5 (tm 35)])
 .ret)
 (.seq (.reg [b2 37 .eql 5 (tm 7) (kb 4) 5 4,
 mo 36 (tm 37)])
 (.cond (tm 36) (.seq (.reg [mo 38 (tm 0),
 fa 39 1 (tm 3),
 l1 40 (tm 39),
 ca 41 139 [(tm 38), (tm 40)],
 ex 42 (tm 41) 0,
 ex 43 (tm 41) 1,
 mo 4 (tm 42),
 mo 5 (tm 43)])
 (.seq (.keep [4, 5])
 .ret))
 (.seq (.reg [b2 45 .eql 5 (tm 7) (kb 5) 5 4,
 mo 44 (tm 45)])
 (.cond (tm 44) (.reg [mo 46 (tm 0),
 fa 47 3 (tm 3),
 l1 48 (tm 47),
 ca 49 146 [(tm 46), (tm 48)]])
 (.seq (.reg [b2 51 .eql 5 (tm 7) (kb 6) 5 4,
 mo 50 (tm 51)])
 (.cond (tm 50) (.reg [mo 52 (tm 0),
 fa 53 4 (tm 3),
 l2 54 2 (tm 53),
 ca 55 147 [(tm 52), (tm 54)]])
 (.seq (.reg [b2 57 .eql 5 (tm 7) (kb 7) 5 4,
 mo 56 (tm 57)])
 (.cond (tm 56) (.reg [mo 58 (tm 0),
 nc 59 (tm 58),
 fa 60 1 (tm 59),
 sr 1 (tm 60) (kB false)])
 .skip))))))))))))))))))
 (.seq (.keep [])
 (.seq (.reg [mo 4 (.const (.string ⟨#[]⟩)),
 mo 5 (ki 0)])
 .ret))))⟩

def lf92 : LFunc := ⟨1, [.ldn 2 11],
 (.seq (.reg [oo 1 (.box (tm 0)),
 oo 2 (.alloc [(.int .u64 0), (.int .u8 0), (.int .u64 0), (.int .u64 0), (.int .u8 0), (.string ⟨#[]⟩), (.string ⟨#[]⟩), (.string ⟨#[]⟩), (.string ⟨#[]⟩), (.string ⟨#[]⟩), (.slice none 0 0)])])
 (.seq (.reg [fa 3 10 (tm 1),
 l1 4 (tm 3),
 ca 5 95 [(tm 4)],
 fa 6 10 (tm 1),
 sr 1 (tm 6) (tm 5)])
 (.seq (.reg [l2 7 11 (tm 1),
 sr 11 (tm 2) (tm 7)])
 .ret)))⟩

def lf93 : LFunc := ⟨2, [.ldn 4 11, .tmp 5],
 (.seq (.reg [oo 2 (.box (tm 0)),
 oo 3 (.box (tm 1)),
 oo 4 (.alloc [(.int .u64 0), (.int .u8 0), (.int .u64 0), (.int .u64 0), (.int .u8 0), (.string ⟨#[]⟩), (.string ⟨#[]⟩), (.string ⟨#[]⟩), (.string ⟨#[]⟩), (.string ⟨#[]⟩), (.slice none 0 0)]),
 mo 5 (kB false)])
 (.seq (.seq (.dreg [l2 6 13 (tm 3),
 ca 7 148 [(tm 6)],
 u1 8 .not 4 (tm 7) 4,
 mo 9 (tm 8),
 ⟨(some 10), (some (9, false)), .fadr 0 (tm 3)⟩,
 ⟨(some 11), (some (9, false)), .ld1 (tm 10)⟩,
 ⟨(some 12), (some (9, false)), .fadr 2 (tm 2)⟩,
 ⟨(some 13), (some (9, false)), .fadr 0 (tm 12)⟩,
 ⟨(some 14), (some (9, false)), .ld1 (tm 13)⟩,
 ⟨(some 15), (some (9, false)), .prim ⟨none, (.binOp .leq 22 (tm 11) (tm 14) 22), 4, "", #[], none⟩⟩,
 oo 16 (.pick (tm 9) (kB true) (tm 15)),
 mo 17 (tm 16),
 ⟨(some 18), (some (17, false)), .fadr 0 (tm 3)⟩,
 ⟨(some 19), (some (17, false)), .ld1 (tm 18)⟩,
 ⟨(some 20), (some (17, false)), .fadr 2 (tm 2)⟩,
 ⟨(some 21), (some (17, false)), .fadr 0 (tm 20)⟩,
 ⟨(some 22), (some (17, false)), .ld1 (tm 21)⟩,
 ⟨(some 23), (some (17, false)), .prim ⟨none, (.binOp .sub 22 (tm 19) (tm 22) 22), 22, "", #[], none⟩⟩,
 ⟨(some 24), (some (17, false)), .fadr 10 (tm 2)⟩,
 ⟨(some 25), (some (17, false)), .ld1 (tm 24)⟩,
 ⟨(some 26), (some (17, false)), .len false (tm 25)⟩,
 ⟨(some 27), (some (17, false)), .prim ⟨none, (.convert 3 22 (tm 26)), 22, "", #[], none⟩⟩,
 ⟨(some 28), (some (17, false)), .prim ⟨none, (.binOp .add 22 (tm 27) (ku 1) 22), 22, "", #[], none⟩⟩,
 ⟨(some 29), (some (17, false)), .prim ⟨none, (.binOp .gtr 22 (tm 23) (tm 28) 22), 4, "", #[], none⟩⟩,
 oo 30 (.pick (tm 17) (kB true) (tm 29)),
 mo 31 (tm 30),
 ⟨(some 32), (some (31, false)), .fadr 1 (tm 3)⟩,
 ⟨(some 33), (some (31, false)), .ld1 (tm 32)⟩,
 ⟨(some 34), (some (31, false)), .ldn 11 (tm 2)⟩,
 ⟨(some 35), (some (31, false)), .fadr 0 (tm 3)⟩,
 ⟨(some 36), (some (31, false)), .ld1 (tm 35)⟩,
 ⟨(some 37), (some (31, false)), .call 149 [(tm 34), (tm 36)]⟩,
 ⟨(some 38), (some (31, false)), .prim ⟨none, (.binOp .lss 22 (tm 33) (tm 37) 22), 4, "", #[], none⟩⟩,
 oo 39 (.pick (tm 31) (kB true) (tm 38))] [(27, 1, 2)])
 (.seq (.keep [2, 3, 4, 39])
 (.cond (tm 39) (.seq (.reg [oo 40 (.build [(.int .u64 0), (.int .u8 0), (.int .u64 0), (.int .u64 0), (.int .u8 0), (.string ⟨#[]⟩), (.string ⟨#[]⟩), (.string ⟨#[]⟩), (.string ⟨#[]⟩), (.string ⟨#[]⟩), (.slice none 0 0)] []),
 sr 11 (tm 4) (tm 40),
 mo 5 (kB false)])
 .ret)
 .skip)))
 (.seq (.keep [2, 3, 4])
 (.seq (.dreg [fa 41 10 (tm 2),
 l1 42 (tm 41),
 fa 43 0 (tm 3),
 l1 44 (tm 43),
 fa 45 2 (tm 2),
 fa 46 0 (tm 45),
 l1 47 (tm 46),
 b2 48 .sub 22 (tm 44) (tm 47) 22 22,
 b2 49 .sub 22 (tm 48) (ku 1) 22 22,
 oo 50 (.slcl 13 (tm 42) none (some (tm 49)) none),
 ca 51 150 [(tm 50)],
 l2 52 13 (tm 3),
 oo 53 (.bslice 13 1 [(.int .u64 0), (.int .u64 0), (.int .u8 0), (.int .u8 0), (.int .u8 0), (.int .u8 0), (.int .u8 0), (.int .u8 0), (.int .u8 0), (.int .u8 0), (.int .u8 0), (.int .u8 0), (.string ⟨#[]⟩)] [(0, 13, (tm 52))]),
 ap 54 13 48 (tm 51) (tm 53),
 fa 55 10 (tm 2),
 sr 1 (tm 55) (tm 54)] [(11, 0, 1)])
 (.seq (.keep [2, 4])
 (.seq (.reg [l2 56 11 (tm 2),
 sr 11 (tm 4) (tm 56),
 mo 5 (kB true)])
 .ret))))))⟩

def lp94x0 : LCode := .loop (.seq (.keep [2, 3, 4, 6, 7, 8, 9])
 (.seq (.seq (.dreg [mo 30 (tm 9),
 fa 31 10 (tm 2),
 l1 32 (tm 31),
 le 33 false (tm 32),
 b2 34 .lss 3 (tm 30) (tm 33) 3 4,
 mo 35 (tm 34),
 ⟨(some 36), (some (35, true)), .fadr 10 (tm 2)⟩,
 ⟨(some 37), (some (35, true)), .ld1 (tm 36)⟩,
 ⟨(some 38), (some (35, true)), .mv (tm 9)⟩,
 ⟨(some 39), (some (35, true)), .iadrs 13 (tm 37) (tm 38)⟩,
 ⟨(some 40), (some (35, true)), .fadr 0 (tm 39)⟩,
 ⟨(some 41), (some (35, true)), .ld1 (tm 40)⟩,
 ⟨(some 42), (some (35, true)), .fadr 3 (tm 3)⟩,
 ⟨(some 43), (some (35, true)), .fadr 0 (tm 42)⟩,
 ⟨(some 44), (some (35, true)), .ld1 (tm 43)⟩,
 ⟨(some 45), (some (35, true)), .prim ⟨none, (.binOp .lss 22 (tm 41) (tm 44) 22), 4, "", #[], none⟩⟩,
 oo 46 (.pick (tm 35) (tm 45) (kB false))] [])
 (.seq (.keep [2, 3, 4, 6, 7, 8, 9, 46])
 (.cond (tm 46) .skip
 (.exit 0))))
 (.seq (.keep [2, 3, 4, 6, 9])
 (.seq (.block 1 (.seq (.reg [mo 49 (tm 6),
 fa 50 10 (tm 2),
 l1 51 (tm 50),
 mo 52 (tm 9),
 is 53 13 (tm 51) (tm 52),
 l2 54 13 (tm 53),
 oo 55 (.bslice 13 1 [(.int .u64 0), (.int .u64 0), (.int .u8 0), (.int .u8 0), (.int .u8 0), (.int .u8 0), (.int .u8 0), (.int .u8 0), (.int .u8 0), (.int .u8 0), (.int .u8 0), (.int .u8 0), (.string ⟨#[]⟩)] [(0, 13, (tm 54))]),
 ap 56 13 48 (tm 49) (tm 55),
 mo 6 (tm 56)])
 (.seq (.keep [2, 3, 4, 6, 9])
 (.seq (.reg [fa 57 10 (tm 2),
 l1 58 (tm 57),
 mo 59 (tm 9),
 is 60 13 (tm 58) (tm 59),
 fa 61 0 (tm 60),
 l1 62 (tm 61),
 mo 7 (tm 62)])
 (.reg [fa 63 10 (tm 2),
 l1 64 (tm 63),
 mo 65 (tm 9),
 is 66 13 (tm 64) (tm 65),
 fa 67 1 (tm 66),
 l1 68 (tm 67),
 mo 8 (tm 68)])))))
 (.seq (.keep [2, 3, 4, 6, 7, 8, 9])
 (.reg [mo 47 (tm 9),
 b2 48 .add 3 (tm 47) (ki 1) 3 3,
 mo 9 (tm 48)]))))))

def lf94 : LFunc := ⟨2, [.ldn 4 11, .tmp 5],
 (.seq (.reg [oo 2 (.box (tm 0)),
 oo 3 (.box (tm 1)),
 oo 4 (.alloc [(.int .u64 0), (.int .u8 0), (.int .u64 0), (.int .u64 0), (.int .u8 0), (.string ⟨#[]⟩), (.string ⟨#[]⟩), (.string ⟨#[]⟩), (.string ⟨#[]⟩), (.string ⟨#[]⟩), (.slice none 0 0)]),
 mo 5 (kB false)])
 (.seq (.seq (.reg [l2 10 16 (tm 3),
 ca 11 66 [(tm 10)],
 u1 12 .not 4 (tm 11) 4])
 (.cond (tm 12) (.seq (.reg [oo 13 (.build [(.int .u64 0), (.int .u8 0), (.int .u64 0), (.int .u64 0), (.int .u8 0), (.string ⟨#[]⟩), (.string ⟨#[]⟩), (.string ⟨#[]⟩), (.string ⟨#[]⟩), (.string ⟨#[]⟩), (.slice none 0 0)] []),
 sr 11 (tm 4) (tm 13),
 mo 5 (kB false)])
 .ret)
 .skip))
 (.seq (.keep [2, 3, 4])
 (.seq (.seq (.reg [fa 14 0 (tm 3),
 l1 15 (tm 14),
 b2 16 .eql 5 (tm 15) (kb 2) 5 4])
 (.cond (tm 16) (.seq (.reg [fa 17 1 (tm 3),
 l1 18 (tm 17),
 fa 19 0 (tm 2),
 sr 1 (tm 19) (tm 18)])
 (.seq (.reg [fa 20 2 (tm 3),
 l1 21 (tm 20),
 fa 22 1 (tm 2),
 sr 1 (tm 22) (tm 21)])
 (.seq (.reg [l2 23 11 (tm 2),
 sr 11 (tm 4) (tm 23),
 mo 5 (kB true)])
 .ret)))
 .skip))
 (.seq (.keep [2, 3, 4])
 (.seq (.reg [mo 6 (.const (.slice none 0 0))])
 (.seq (.reg [fa 24 2 (tm 2),
 fa 25 0 (tm 24),
 l1 26 (tm 25),
 mo 7 (tm 26)])
 (.seq (.reg [fa 27 2 (tm 2),
 fa 28 1 (tm 27),
 l1 29 (tm 28),
 mo 8 (tm 29)])
 (.seq (.seq (.reg [mo 9 (ki 0)])
 (.block 0 lp94x0))
 (.seq (.keep [2, 3, 4, 6, 7, 8])
 (.seq (.seq (.reg [fa 69 3 (tm 3),
 fa 70 0 (tm 69),
 l1 71 (tm 70),
 mo 72 (tm 7),
 b2 73 .add 22 (tm 72) (ku 1) 22 22,
 b2 74 .neq 22 (tm 71) (tm 73) 22 4,
 mo 75 (tm 74),
 ⟨(some 76), (some (75, false)), .fadr 3 (tm 3)⟩,
 ⟨(some 77), (some (75, false)), .fadr 1 (tm 76)⟩,
 ⟨(some 78), (some (75, false)), .ld1 (tm 77)⟩,
 ⟨(some 79), (some (75, false)), .mv (tm 8)⟩,
 ⟨(some 80), (some (75, false)), .prim ⟨none, (.binOp .lss 22 (tm 78) (tm 79) 22), 4, "", #[], none⟩⟩,
 oo 81 (.pick (tm 75) (kB true) (tm 80))])
 (.seq (.keep [2, 3, 4, 6, 81])
 (.cond (tm 81) (.seq (.reg [oo 82 (.build [(.int .u64 0), (.int .u8 0), (.int .u64 0), (.int .u64 0), (.int .u8 0), (.string ⟨#[]⟩), (.string ⟨#[]⟩), (.string ⟨#[]⟩), (.string ⟨#[]⟩), (.string ⟨#[]⟩), (.slice none 0 0)] []),
 sr 11 (tm 4) (tm 82),
 mo 5 (kB false)])
 .ret)
 .skip)))
 (.seq (.keep [2, 3, 4, 6])
 (.seq (.reg [mo 83 (tm 6),
 fa 84 3 (tm 3),
 l2 85 13 (tm 84),
 oo 86 (.bslice 13 1 [(.int .u64 0), (.int .u64 0), (.int .u8 0), (.int .u8 0), (.int .u8 0), (.int .u8 0), (.int .u8 0), (.int .u8 0), (.int .u8 0), (.int .u8 0), (.int .u8 0), (.int .u8 0), (.string ⟨#[]⟩)] [(0, 13, (tm 85))]),
 ap 87 13 48 (tm 83) (tm 86),
 fa 88 10 (tm 2),
 sr 1 (tm 88) (tm 87)])
 (.seq (.reg [l2 89 11 (tm 2),
 sr 11 (tm 4) (tm 89),
 mo 5 (kB true)])
 .ret))))))))))))))⟩

def lf95 : LFunc := ⟨1, [.tmp 2],
 (.seq (.reg [mo 2 (.const (.slice none 0 0))])
 (.seq (.seq (.reg [mo 3 (tm 0),
 oo 4 (.cmpref 1 false (tm 3) (.const (.slice none 0 0)))])
 (.cond (tm 4) (.seq (.reg [mo 2 (.const (.slice none 0 0))])
 .ret)
 .skip))
 (.seq (.keep [0])
 (.seq (.reg [oo 5 (.bslice 13 0 [(.int .u64 0), (.int .u64 0), (.int .u8 0), (.int .u8 0), (.int .u8 0), (.int .u8 0), (.int .u8 0), (.int .u8 0), (.int .u8 0), (.int .u8 0), (.int .u8 0), (.int .u8 0), (.string ⟨#[]⟩)] []),
 mo 6 (tm 0),
 ap 7 13 48 (tm 5) (tm 6),
 mo 2 (tm 7)])
 .ret))))⟩

def lf96 : LFunc := ⟨1, [.tmp 2],
 (.seq (.reg [mo 2 (kB false)])
 (.seq (.reg [mo 3 (tm 0),
 ca 4 72 [(tm 3)],
 mo 5 (tm 4),
 ⟨(some 6), (some (5, false)), .mv (tm 0)⟩,
 ⟨(some 7), (some (5, false)), .nilck (tm 6)⟩,
 ⟨(some 8), (some (5, false)), .fadr 1 (tm 7)⟩,
 ⟨(some 9), (some (5, false)), .ld1 (tm 8)⟩,
 oo 10 (.pick (tm 5) (kB true) (tm 9)),
 mo 2 (tm 10)])
 (.seq (.keep [2])
 .ret)))⟩

def lp97x0 : LCode := .loop (.seq (.keep [4, 12, 50, 51, 52])
 (.seq (.reg [b2 53 .lss 3 (tm 52) (tm 51) 3 0])
 (.seq (.cond (tm 53) .skip
 (.exit 0))
 (.seq (.keep [4, 12, 50, 51, 52])
 (.seq (.block 1 (.seq (.reg [is 54 16 (tm 50) (tm 52),
 l2 55 16 (tm 54),
 oo 14 (.alloc [(.int .u8 0), (.int .u64 0), (.int .u8 0), (.int .u64 0), (.int .u64 0), (.int .u8 0), (.int .u8 0), (.int .u8 0), (.int .u8 0), (.int .u8 0), (.int .u8 0), (.int .u8 0), (.int .u8 0), (.int .u8 0), (.int .u8 0), (.string ⟨#[]⟩)]),
 sr 16 (tm 14) (tm 55)])
 (.seq (.reg [l2 57 11 (tm 12),
 l2 58 16 (tm 14),
 oo 59 (.bslice 16 1 [(.int .u8 0), (.int .u64 0), (.int .u8 0), (.int .u64 0), (.int .u64 0), (.int .u8 0), (.int .u8 0), (.int .u8 0), (.int .u8 0), (.int .u8 0), (.int .u8 0), (.int .u8 0), (.int .u8 0), (.int .u8 0), (.int .u8 0), (.string ⟨#[]⟩)] [(0, 16, (tm 58))]),
 ca 60 46 [(tm 57), (tm 59)],
 mo 56 (tm 60),
 ex 61 (tm 56) 0,
 ex 62 (tm 56) 1,
 oo 15 (.alloc [(.int .u64 0), (.int .u8 0), (.int .u64 0), (.int .u64 0), (.int .u8 0), (.string ⟨#[]⟩), (.string ⟨#[]⟩), (.string ⟨#[]⟩), (.string ⟨#[]⟩), (.string ⟨#[]⟩), (.slice none 0 0)]),
 sr 11 (tm 15) (tm 61),
 mo 16 (tm 62)])
 (.seq (.keep [4, 12, 15, 16, 50, 51, 52])
 (.seq (.seq (.reg [mo 63 (tm 16),
 b2 64 .neq 39 (tm 63) (ki 0) 39 4])
 (.cond (tm 64) (.exit 0)
 .skip))
 (.seq (.keep [4, 12, 15, 50, 51, 52])
 (.reg [l2 65 11 (tm 15),
 sr 11 (tm 12) (tm 65)])))))))
 (.seq (.keep [4, 12, 50, 51, 52])
 (.reg [b2 66 .add 3 (tm 52) (ki 1) 3 3,
 mo 52 (tm 66)])))))))

def lf97 : LFunc := ⟨2, [.ldn 4 11, .tmp 5],
 (.seq (.reg [oo 4 (.alloc [(.int .u64 0), (.int .u8 0), (.int .u64 0), (.int .u64 0), (.int .u8 0), (.string ⟨#[]⟩), (.string ⟨#[]⟩), (.string ⟨#[]⟩), (.string ⟨#[]⟩), (.string ⟨#[]⟩), (.slice none 0 0)]),
 mo 5 (kB false)])
 (.seq (.dreg [mo 18 (tm 0),
 nc 19 (tm 18),
 fa 20 0 (tm 19),
 l1 21 (tm 20),
 mo 22 (tm 0),
 nc 23 (tm 22),
 fa 24 1 (tm 23),
 l1 25 (tm 24),
 mo 26 (tm 1),
 ca 27 26 [(tm 21), (tm 25), (tm 26)],
 mo 17 (tm 27),
 ex 28 (tm 17) 0,
 ex 29 (tm 17) 1,
 ex 30 (tm 17) 2,
 ex 31 (tm 17) 3,
 mo 6 (tm 28),
 mo 7 (tm 29),
 mo 8 (tm 30),
 mo 9 (tm 31)] [])
 (.seq (.keep [0, 4, 6, 7, 8, 9])
 (.seq (.seq (.reg [mo 32 (tm 9),
 b2 33 .neq 39 (tm 32) (ki 0) 39 4,
 mo 34 (tm 33),
 ⟨(some 35), (some (34, false)), .mv (tm 8)⟩,
 ⟨(some 36), (some (34, false)), .prim ⟨none, (.unOp .not 4 (tm 35)), 4, "", #[], none⟩⟩,
 oo 37 (.pick (tm 34) (kB true) (tm 36))])
 (.cond (tm 37) (.seq (.reg [oo 38 (.build [(.int .u64 0), (.int .u8 0), (.int .u64 0), (.int .u64 0), (.int .u8 0), (.string ⟨#[]⟩), (.string ⟨#[]⟩), (.string ⟨#[]⟩), (.string ⟨#[]⟩), (.string ⟨#[]⟩), (.slice none 0 0)] []),
 sr 11 (tm 4) (tm 38),
 mo 5 (kB false)])
 .ret)
 .skip))
 (.seq (.keep [0, 4, 6, 7])
 (.seq (.reg [mo 40 (tm 0),
 mo 41 (tm 6),
 ca 42 151 [(tm 40), (tm 41)],
 mo 39 (tm 42),
 ex 43 (tm 39) 0,
 ex 44 (tm 39) 1,
 oo 10 (.alloc [(.int .u64 0), (.int .u64 0), (.int .u8 0), (.string ⟨#[]⟩), (.string ⟨#[]⟩), (.string ⟨#[]⟩), (.string ⟨#[]⟩), (.string ⟨#[]⟩)]),
 sr 8 (tm 10) (tm 43),
 mo 11 (tm 44)])
 (.seq (.keep [4, 7, 10, 11])
 (.seq (.seq (.reg [mo 45 (tm 11),
 u1 46 .not 4 (tm 45) 4])
 (.cond (tm 46) (.seq (.reg [oo 47 (.build [(.int .u64 0), (.int .u8 0), (.int .u64 0), (.int .u64 0), (.int .u8 0), (.string ⟨#[]⟩), (.string ⟨#[]⟩), (.string ⟨#[]⟩), (.string ⟨#[]⟩), (.string ⟨#[]⟩), (.slice none 0 0)] []),
 sr 11 (tm 4) (tm 47),
 mo 5 (kB false)])
 .ret)
 .skip))
 (.seq (.keep [4, 7, 10])
 (.seq (.reg [l2 48 8 (tm 10),
 oo 49 (.build [(.int .u64 0), (.int .u8 0), (.int .u64 0), (.int .u64 0), (.int .u8 0), (.string ⟨#[]⟩), (.string ⟨#[]⟩), (.string ⟨#[]⟩), (.string ⟨#[]⟩), (.string ⟨#[]⟩), (.slice none 0 0)] [(2, 8, (tm 48))]),
 oo 12 (.alloc [(.int .u64 0), (.int .u8 0), (.int .u64 0), (.int .u64 0), (.int .u8 0), (.string ⟨#[]⟩), (.string ⟨#[]⟩), (.string ⟨#[]⟩), (.string ⟨#[]⟩), (.string ⟨#[]⟩), (.slice none 0 0)]),
 sr 11 (tm 12) (tm 49)])
 (.seq (.seq (.reg [mo 50 (tm 7),
 le 51 false (tm 50),
 mo 52 (ki 0)])
 (.block 0 lp97x0))
 (.seq (.keep [4, 12])
 (.seq (.reg [l2 67 11 (tm 12),
 sr 11 (tm 4) (tm 67),
 mo 5 (kB true)])
 .ret)))))))))))))⟩

def lf98 : LFunc := ⟨2, [.tmp 4],
 (.seq (.reg [mo 4 (ki 0)])
 (.seq (.dreg [mo 8 (tm 0),
 nc 9 (tm 8),
 fa 10 0 (tm 9),
 l1 11 (tm 10),
 mo 12 (tm 0),
 nc 13 (tm 12),
 fa 14 1 (tm 13),
 l1 15 (tm 14),
 mo 16 (tm 1),
 mo 17 (tm 0),
 nc 18 (tm 17),
 fa 19 3 (tm 18),
 fa 20 2 (tm 19),
 fa 21 0 (tm 20),
 l1 22 (tm 21),
 mo 23 (tm 0),
 nc 24 (tm 23),
 fa 25 3 (tm 24),
 l2 26 11 (tm 25),
 ca 27 152 [(tm 26)],
 ca 28 21 [(tm 11), (tm 15), (tm 16), (tm 22), (tm 27)],
 mo 7 (tm 28),
 ex 29 (tm 7) 0,
 ex 30 (tm 7) 1,
 mo 5 (tm 29),
 mo 6 (tm 30)] [(3, 0, 1), (7, 0, 1), (14, 0, 1)])
 (.seq (.keep [0, 5, 6])
 (.seq (.seq (.reg [mo 31 (tm 6),
 b2 32 .eql 39 (tm 31) (ki 0) 39 4])
 (.cond (tm 32) (.reg [mo 33 (tm 0),
 mo 34 (tm 5),
 nc 35 (tm 33),
 fa 36 2 (tm 35),
 sr 1 (tm 36) (tm 34)])
 .skip))
 (.seq (.keep [6])
 (.seq (.reg [mo 37 (tm 6),
 mo 4 (tm 37)])
 .ret))))))⟩

def lf99 : LFunc := ⟨1, [.tmp 2, .tmp 3],
 (.seq (.reg [mo 2 (ku 0),
 mo 3 (kB false)])
 (.seq (.reg [mo 7 (tm 0),
 ca 8 79 [(tm 7), (.const (.string ⟨#[115, 110, 97, 112, 46]⟩))],
 ca 9 78 [(tm 8), (ki 10), (ki 64)],
 mo 6 (tm 9),
 ex 10 (tm 6) 0,
 ex 11 (tm 6) 1,
 mo 4 (tm 10),
 mo 5 (tm 11)])
 (.seq (.keep [0, 4, 5])
 (.seq (.reg [mo 12 (tm 4),
 mo 13 (tm 5),
 oo 14 (.cmpref 4 false (tm 13) (.const .nilIface)),
 mo 15 (tm 14),
 ⟨(some 16), (some (15, true)), .mv (tm 4)⟩,
 ⟨(some 17), (some (15, true)), .call 109 [(tm 16)]⟩,
 ⟨(some 18), (some (15, true)), .mv (tm 0)⟩,
 ⟨(some 19), (some (15, true)), .prim ⟨none, (.binOp .eql 9 (tm 17) (tm 18) 9), 4, "", #[], none⟩⟩,
 oo 20 (.pick (tm 15) (tm 19) (kB false)),
 mo 2 (tm 12),
 mo 3 (tm 20)])
 (.seq (.keep [2, 3])
 .ret)))))⟩

def lf100 : LFunc := ⟨2, [.tmp 4],
 (.seq (.reg [oo 2 (.box (tm 0)),
 oo 3 (.box (tm 1)),
 mo 4 (ki 0)])
 (.seq (.reg [l1 5 (tm 2),
 l1 6 (tm 3),
 oo 7 (.mkfunc 154 [] [(tm 2), (tm 3)]),
 ca 8 153 [(tm 5), (tm 6), (tm 7)],
 mo 4 (tm 8)])
 .ret))⟩

def lp101x0 : LCode := .loop (.seq (.keep [1, 2, 5, 6])
 (.seq (.seq (.reg [mo 7 (tm 6),
 mo 8 (tm 1),
 le 9 false (tm 8),
 b2 10 .lss 3 (tm 7) (tm 9) 3 4])
 (.cond (tm 10) .skip
 (.exit 0)))
 (.seq (.keep [1, 2, 5, 6])
 (.seq (.block 1 (.seq (.dreg [l2 14 11 (tm 2),
 mo 15 (tm 1),
 mo 16 (tm 6),
 is 17 16 (tm 15) (tm 16),
 l2 18 16 (tm 17),
 ca 19 94 [(tm 14), (tm 18)],
 mo 13 (tm 19),
 ex 20 (tm 13) 0,
 ex 21 (tm 13) 1,
 sr 11 (tm 2) (tm 20)] [])
 (.seq (.keep [1, 2, 5, 6])
 (.reg [mo 22 (tm 5),
 l2 23 11 (tm 2),
 oo 24 (.bslice 11 1 [(.int .u64 0), (.int .u8 0), (.int .u64 0), (.int .u64 0), (.int .u8 0), (.string ⟨#[]⟩), (.string ⟨#[]⟩), (.string ⟨#[]⟩), (.string ⟨#[]⟩), (.string ⟨#[]⟩), (.slice none 0 0)] [(0, 11, (tm 23))]),
 ap 25 11 144 (tm 22) (tm 24),
 mo 5 (tm 25)]))))
 (.seq (.keep [1, 2, 5, 6])
 (.reg [mo 11 (tm 6),
 b2 12 .add 3 (tm 11) (ki 1) 3 3,
 mo 6 (tm 12)]))))))

def lf101 : LFunc := ⟨2, [.tmp 4],
 (.seq (.reg [oo 2 (.box (tm 0)),
 mo 4 (.const (.slice none 0 0))])
 (.seq (.reg [mo 5 (.const (.slice none 0 0))])
 (.seq (.seq (.reg [mo 6 (ki 0)])
 (.block 0 lp101x0))
 (.seq (.keep [5])
 (.seq (.reg [mo 26 (tm 5),
 mo 4 (tm 26)])
 .ret)))))⟩

def lf102 : LFunc := ⟨1, [.tmp 2],
 (.seq (.reg [mo 2 (kB false)])
 (.seq (.reg [mo 3 (tm 0),
 b2 4 .neq 9 (tm 3) (.const (.string ⟨#[]⟩)) 9 4,
 mo 5 (tm 4),
 ⟨(some 6), (some (5, true)), .mv (tm 0)⟩,
 ⟨(some 7), (some (5, true)), .prim ⟨none, (.call ⟨.builtin .len, #[(tm 6)], #[9]⟩), 3, "", #[], none⟩⟩,
 ⟨(some 8), (some (5, true)), .prim ⟨none, (.binOp .leq 3 (tm 7) (ki 32) 3), 4, "", #[], none⟩⟩,
 oo 9 (.pick (tm 5) (tm 8) (kB false)),
 mo 2 (tm 9)])
 (.seq (.keep [2])
 .ret)))⟩

def lf103 : LFunc := ⟨1, [.tmp 2],
 (.seq (.reg [mo 2 (ki 0)])
 (.seq (.seq (.reg [mo 3 (tm 0),
 nc 4 (tm 3),
 fa 5 2 (tm 4),
 l1 6 (tm 5),
 b2 7 .gtr 3 (tm 6) (ki 0) 3 4])
 (.cond (tm 7) (.seq (.reg [mo 8 (tm 0),
 nc 9 (tm 8),
 fa 10 2 (tm 9),
 l1 11 (tm 10),
 b2 12 .sub 3 (tm 11) (ki 1) 3 3,
 nc 13 (tm 8),
 fa 14 2 (tm 13),
 sr 1 (tm 14) (tm 12)])
 (.seq (.keep [0])
 (.reg [mo 15 (tm 0),
 mo 16 (tm 0),
 nc 17 (tm 16),
 fa 18 2 (tm 17),
 l1 19 (tm 18),
 b2 20 .eql 3 (tm 19) (ki 0) 3 4,
 nc 21 (tm 15),
 fa 22 1 (tm 21),
 sr 1 (tm 22) (tm 20)])))
 .skip))
 (.seq (.keep [0])
 (.seq (.reg [mo 23 (tm 0),
 ca 24 83 [(tm 23)],
 mo 2 (tm 24)])
 .ret))))⟩

def lf104 : LFunc := ⟨1, [.tmp 2],
 (.seq (.reg [mo 2 (.const (.slice none 0 0))])
 (.seq (.reg [mo 3 (tm 0),
 mo 4 (tm 0),
 le 5 false (tm 4),
 mo 6 (tm 0),
 le 7 false (tm 6),
 oo 8 (.slcl 1 (tm 3) none (some (tm 5)) (some (tm 7))),
 mo 2 (tm 8)])
 .ret))⟩

def lf105 : LFunc := ⟨1, [.tmp 2],
 (.seq (.reg [mo 2 (ki 0)])
 (.seq (.block 0 (.seq (.reg [mo 4 (tm 0),
 oo 5 (.cmpref 0 false (tm 4) (.const (.pointer none))),
 mo 6 (tm 5),
 ⟨(some 7), (some (6, false)), .mv (tm 0)⟩,
 ⟨(some 8), (some (6, false)), .nilck (tm 7)⟩,
 ⟨(some 9), (some (6, false)), .fadr 2 (tm 8)⟩,
 ⟨(some 10), (some (6, false)), .ld1 (tm 9)⟩,
 ⟨(some 11), (some (6, false)), .cmpref 0 false (tm 10) (.const (.pointer none))⟩,
 oo 12 (.pick (tm 6) (kB true) (tm 11)),
 mo 3 (tm 12)])
 (.seq (.keep [0, 3])
 (.cond (tm 3) (.seq (.reg [mo 2 (ki 2)])
 .ret)
 (.seq (.reg [mo 14 (tm 0),
 nc 15 (tm 14),
 fa 16 14 (tm 15),
 l1 17 (tm 16),
 mo 18 (tm 17),
 ⟨(some 19), (some (18, false)), .mv (tm 0)⟩,
 ⟨(some 20), (some (18, false)), .nilck (tm 19)⟩,
 ⟨(some 21), (some (18, false)), .fadr 0 (tm 20)⟩,
 ⟨(some 22), (some (18, false)), .ld1 (tm 21)⟩,
 ⟨(some 23), (some (18, false)), .call 96 [(tm 22)]⟩,
 oo 24 (.pick (tm 18) (kB true) (tm 23)),
 mo 13 (tm 24)])
 (.seq (.keep [13])
 (.cond (tm 13) (.seq (.reg [mo 2 (ki 7)])
 .ret)
 .skip)))))))
 (.seq (.keep [])
 (.seq (.reg [mo 2 (ki 0)])
 .ret))))⟩

def lf106 : LFunc := ⟨2, [.tmp 4],
 (.seq (.reg [mo 4 (ki 0)])
 (.seq (.reg [mo 5 (tm 0),
 mo 6 (tm 0),
 nc 7 (tm 6),
 fa 8 14 (tm 7),
 l1 9 (tm 8),
 mo 10 (tm 9),
 ⟨(some 11), (some (10, false)), .mv (tm 1)⟩,
 ⟨(some 12), (some (10, false)), .prim ⟨none, (.binOp .neq 39 (tm 11) (ki 0) 39), 4, "", #[], none⟩⟩,
 oo 13 (.pick (tm 10) (kB true) (tm 12)),
 nc 14 (tm 5),
 fa 15 14 (tm 14),
 sr 1 (tm 15) (tm 13)])
 (.seq (.keep [1])
 (.seq (.reg [mo 16 (tm 1),
 mo 4 (tm 16)])
 .ret))))⟩

def lf107 : LFunc := ⟨1, [.tmp 2],
 (.seq (.reg [mo 2 (ki 0)])
 (.seq (.reg [mo 5 (tm 0),
 nc 6 (tm 5),
 fa 7 2 (tm 6),
 l1 8 (tm 7),
 ca 9 37 [(tm 8)],
 mo 3 (tm 9)])
 (.seq (.seq (.reg [mo 10 (tm 0),
 mo 11 (tm 3),
 b2 12 .add 22 (tm 11) (ku 1) 22 22,
 ca 13 98 [(tm 10), (tm 12)],
 mo 4 (tm 13)])
 (.seq (.reg [mo 14 (tm 4),
 b2 15 .neq 39 (tm 14) (ki 0) 39 4])
 (.cond (tm 15) (.seq (.reg [mo 16 (tm 4),
 mo 2 (tm 16)])
 .ret)
 .skip)))
 (.seq (.keep [0, 3])
 (.seq (.dreg [mo 17 (tm 0),
 nc 18 (tm 17),
 fa 19 0 (tm 18),
 l1 20 (tm 19),
 mo 21 (tm 3),
 ca 22 31 [(tm 21)],
 ca 23 100 [(tm 20), (tm 22)],
 mo 2 (tm 23)] [(3, 0, 1)])
 (.seq (.keep [2])
 .ret))))))⟩

def lf108 : LFunc := ⟨1, [.tmp 2],
 (.seq (.reg [oo 1 (.box (tm 0)),
 mo 2 (.const (.slice none 0 0))])
 (.seq (.dreg [fa 3 0 (tm 1),
 l1 4 (tm 3),
 fa 5 1 (tm 1),
 l1 6 (tm 5),
 fa 7 2 (tm 1),
 l1 8 (tm 7),
 cv 9 5 22 (tm 8) 22,
 oo 10 (.bslice 1 3 [(.int .u64 0)] [(0, 1, (tm 4)), (1, 1, (tm 6)), (2, 1, (tm 9))]),
 ca 11 118 [(tm 10)],
 oo 12 (.bslice 1 1 [(.string ⟨#[]⟩)] [(0, 1, (tm 11))]),
 fa 13 3 (tm 1),
 oo 14 (.slca 5 1 (tm 13) none none none),
 ap 15 1 16 (tm 12) (tm 14),
 mo 2 (tm 15)] [])
 (.seq (.keep [2])
 .ret)))⟩

def lf109 : LFunc := ⟨1, [.tmp 2],
 (.seq (.reg [mo 2 (.const (.string ⟨#[]⟩))])
 (.seq (.reg [mo 4 (tm 0),
 ca 5 80 [(tm 4), (ki 10)],
 mo 3 (tm 5)])
 (.seq (.reg [mo 6 (tm 3),
 ln 7 (tm 6) 9 3,
 b2 8 .sub 3 (ki 8) (tm 7) 3 3,
 oo 9 (.prim ⟨none, (.call ⟨.builtin .max, #[(tm 8), (ki 0)], #[3, 3]⟩), 3, "", #[], none⟩),
 ca 10 81 [(.const (.string ⟨#[48]⟩)), (tm 9)],
 b2 11 .add 9 (.const (.string ⟨#[115, 110, 97, 112, 46]⟩)) (tm 10) 9 9,
 mo 12 (tm 3),
 b2 13 .add 9 (tm 11) (tm 12) 9 9,
 mo 2 (tm 13)])
 (.seq (.keep [2])
 .ret))))⟩

def lf110 : LFunc := ⟨2, [.tmp 4],
 (.seq (.reg [mo 4 (.const (.string ⟨#[]⟩))])
 (.seq (.reg [mo 5 (tm 1),
 ln 6 (tm 5) 9 3,
 cv 7 3 22 (tm 6) 22,
 oo 8 (.bslice 1 1 [(.int .u64 0)] [(0, 1, (tm 7))]),
 ca 9 118 [(tm 8)],
 mo 10 (tm 0),
 mo 11 (tm 1),
 oo 12 (.bslice 1 1 [(.string ⟨#[]⟩)] [(0, 1, (tm 11))]),
 ca 13 121 [(tm 10), (tm 12)],
 cv 14 33 22 (tm 13) 22,
 ca 15 155 [(tm 14), (ki 4)],
 b2 16 .add 9 (tm 9) (tm 15) 9 9,
 mo 17 (tm 1),
 b2 18 .add 9 (tm 16) (tm 17) 9 9,
 mo 4 (tm 18)])
 (.seq (.keep [4])
 .ret)))⟩

def lf111 : LFunc := ⟨2, [.tmp 4],
 (.seq (.reg [oo 2 (.box (tm 0)),
 oo 3 (.box (tm 1)),
 mo 4 (ki 0)])
 (.seq (.reg [l1 5 (tm 2),
 l1 6 (tm 3),
 oo 7 (.mkfunc 156 [] [(tm 2), (tm 3)]),
 ca 8 153 [(tm 5), (tm 6), (tm 7)],
 mo 4 (tm 8)])
 .ret))⟩

def lf113 : LFunc := ⟨1, [.tmp 2],
 (.seq (.reg [oo 1 (.box (tm 0)),
 mo 2 (.const .nilFunc)])
 (.seq (.reg [oo 3 (.mkfunc 159 [] [(tm 1)]),
 mo 2 (tm 3)])
 .ret))⟩

def lf114 : LFunc := ⟨1, [.tmp 2],
 (.seq (.reg [oo 1 (.box (tm 0)),
 mo 2 (kB false)])
 (.seq (.seq (.reg [fa 3 0 (tm 1),
 l1 4 (tm 3),
 b2 5 .eql 22 (tm 4) (ku 0) 22 4,
 mo 6 (tm 5),
 ⟨(some 7), (some (6, false)), .fadr 1 (tm 1)⟩,
 ⟨(some 8), (some (6, false)), .ld1 (tm 7)⟩,
 ⟨(some 9), (some (6, false)), .prim ⟨none, (.binOp .eql 22 (tm 8) (ku 0) 22), 4, "", #[], none⟩⟩,
 oo 10 (.pick (tm 6) (kB true) (tm 9))])
 (.seq (.keep [1, 10])
 (.cond (tm 10) (.seq (.reg [mo 2 (kB false)])
 .ret)
 .skip)))
 (.seq (.keep [1])
 (.seq (.seq (.reg [fa 11 2 (tm 1),
 l1 12 (tm 11)])
 (.block 0 (.seq (.seq (.reg [b2 14 .eql 5 (tm 12) (kb 1) 5 4,
 mo 13 (tm 14)])
 (.cond (tm 13) .skip
 (.reg [b2 15 .eql 5 (tm 12) (kb 5) 5 4,
 mo 13 (tm 15)])))
 (.seq (.keep [1, 12, 13])
 (.cond (tm 13) (.seq (.reg [l2 16 13 (tm 1),
 ca 17 160 [(tm 16)],
 mo 18 (tm 17),
 ⟨(some 19), (some (18, true)), .fadr 12 (tm 1)⟩,
 ⟨(some 20), (some (18, true)), .ld1 (tm 19)⟩,
 ⟨(some 21), (some (18, true)), .prim ⟨none, (.call ⟨.builtin .len, #[(tm 20)], #[9]⟩), 3, "", #[], none⟩⟩,
 ⟨(some 22), (some (18, true)), .prim ⟨none, (.binOp .eql 3 (tm 21) (ki 0) 3), 4, "", #[], none⟩⟩,
 oo 23 (.pick (tm 18) (tm 22) (kB false)),
 mo 2 (tm 23)])
 (.seq (.keep [2])
 .ret))
 (.seq (.reg [b2 25 .eql 5 (tm 12) (kb 2) 5 4,
 mo 24 (tm 25)])
 (.cond (tm 24) (.seq (.reg [l2 26 13 (tm 1),
 ca 27 160 [(tm 26)],
 mo 28 (tm 27),
 ⟨(some 29), (some (28, true)), .fadr 12 (tm 1)⟩,
 ⟨(some 30), (some (28, true)), .ld1 (tm 29)⟩,
 ⟨(some 31), (some (28, true)), .prim ⟨none, (.call ⟨.builtin .len, #[(tm 30)], #[9]⟩), 3, "", #[], none⟩⟩,
 ⟨(some 32), (some (28, true)), .prim ⟨none, (.binOp .eql 3 (tm 31) (ki 1) 3), 4, "", #[], none⟩⟩,
 oo 33 (.pick (tm 28) (tm 32) (kB false)),
 mo 34 (tm 33),
 ⟨(some 35), (some (34, true)), .fadr 12 (tm 1)⟩,
 ⟨(some 36), (some (34, true)), .ld1 (tm 35)⟩,
 ⟨(some 37), (some (34, true)), .prim ⟨none, (.index 9 (tm 36) (ki 0)), 5, "", #[], none⟩⟩,
 ⟨(some 38), (some (34, true)), .prim ⟨none, (.binOp .gtr 5 (tm 37) (kb 0) 5), 4, "", #[], none⟩⟩,
 oo 39 (.pick (tm 34) (tm 38) (kB false)),
 mo 40 (tm 39),
 ⟨(some 41), (some (40, true)), .fadr 12 (tm 1)⟩,
 ⟨(some 42), (some (40, true)), .ld1 (tm 41)⟩,
 ⟨(some 43), (some (40, true)), .prim ⟨none, (.index 9 (tm 42) (ki 0)), 5, "", #[], none⟩⟩,
 ⟨(some 44), (some (40, true)), .prim ⟨none, (.binOp .lss 5 (tm 43) (kb 32) 5), 4, "", #[], none⟩⟩,
 oo 45 (.pick (tm 40) (tm 44) (kB false)),
 mo 2 (tm 45)])
 (.seq (.keep [2])
 .ret))
 (.seq (.reg [b2 47 .eql 5 (tm 12) (kb 3) 5 4,
 mo 46 (tm 47)])
 (.cond (tm 46) (.seq (.reg [fa 48 3 (tm 1),
 l1 49 (tm 48),
 b2 50 .leq 5 (tm 49) (kb 3) 5 4,
 mo 2 (tm 50)])
 .ret)
 (.seq (.reg [b2 52 .eql 5 (tm 12) (kb 4) 5 4,
 mo 51 (tm 52)])
 (.cond (tm 51) (.seq (.reg [l2 53 13 (tm 1),
 ca 54 160 [(tm 53)],
 mo 2 (tm 54)])
 .ret)
 .skip)))))))))))
 (.seq (.keep [])
 (.seq (.reg [mo 2 (kB false)])
 .ret))))))⟩

def lp115x0 : LCode := .loop (.seq (.keep [0, 1, 7, 8])
 (.seq (.reg [b2 9 .lss 3 (tm 8) (tm 7) 3 0])
 (.seq (.cond (tm 9) .skip
 (.exit 0))
 (.seq (.keep [0, 1, 7, 8])
 (.seq (.block 1 (.seq (.reg [mo 10 (tm 8),
 mo 5 (tm 10)])
 (.seq (.reg [mo 11 (tm 1),
 mo 12 (tm 0),
 mo 13 (tm 5),
 is 14 1 (tm 12) (tm 13),
 l1 15 (tm 14),
 b2 16 .eql 9 (tm 11) (tm 15) 9 4])
 (.cond (tm 16) (.seq (.reg [mo 17 (tm 5),
 mo 4 (tm 17)])
 .ret)
 .skip))))
 (.seq (.keep [0, 1, 7, 8])
 (.reg [b2 18 .add 3 (tm 8) (ki 1) 3 3,
 mo 8 (tm 18)])))))))

def lf115 : LFunc := ⟨2, [.tmp 4],
 (.seq (.reg [mo 4 (ki 0)])
 (.seq (.seq (.reg [mo 6 (tm 0),
 le 7 false (tm 6),
 mo 8 (ki 0)])
 (.block 0 lp115x0))
 (.seq (.keep [])
 (.seq (.reg [mo 4 (ki (-1))])
 .ret))))⟩

def lf116 : LFunc := ⟨1, [.tmp 2],
 (.seq (.reg [oo 1 (.box (tm 0)),
 mo 2 (.const (.string ⟨#[]⟩))])
 (.seq (.reg [fa 6 0 (tm 1),
 l1 7 (tm 6),
 oo 8 (.bslice 1 1 [(.int .u8 0)] [(0, 1, (tm 7))]),
 oo 9 (.cvbs (tm 8)),
 mo 3 (tm 9)])
 (.seq (.seq (.reg [fa 10 0 (tm 1),
 l1 11 (tm 10)])
 (.block 0 (.seq (.reg [b2 13 .eql 5 (tm 11) (kb 2) 5 4,
 mo 12 (tm 13)])
 (.cond (tm 12) (.dreg [mo 14 (tm 3),
 fa 15 1 (tm 1),
 l1 16 (tm 15),
 oo 17 (.bslice 1 1 [(.int .u64 0)] [(0, 1, (tm 16))]),
 ca 18 118 [(tm 17)],
 fa 19 2 (tm 1),
 l1 20 (tm 19),
 oo 21 (.bslice 1 1 [(.int .u8 0)] [(0, 1, (tm 20))]),
 oo 22 (.cvbs (tm 21)),
 b2 23 .add 9 (tm 18) (tm 22) 9 9,
 b2 24 .add 9 (tm 14) (tm 23) 9 9,
 mo 3 (tm 24)] [(6, 0, 1), (8, 0, 1)])
 (.seq (.reg [b2 26 .eql 5 (tm 11) (kb 3) 5 4,
 mo 25 (tm 26)])
 (.cond (tm 25) (.reg [mo 27 (tm 3),
 fa 28 3 (tm 1),
 l2 29 13 (tm 28),
 ca 30 161 [(tm 29)],
 b2 31 .add 9 (tm 27) (tm 30) 9 9,
 mo 3 (tm 31)])
 .skip))))))
 (.seq (.keep [1, 3])
 (.seq (.seq (.reg [mo 33 (tm 3),
 ca 34 76 [(tm 33)],
 mo 32 (tm 34),
 ex 35 (tm 32) 0,
 ex 36 (tm 32) 1,
 oo 4 (.alloc [(.int .u8 0), (.int .u64 0), (.int .u8 0), (.int .u64 0), (.int .u64 0), (.int .u8 0), (.int .u8 0), (.int .u8 0), (.int .u8 0), (.int .u8 0), (.int .u8 0), (.int .u8 0), (.int .u8 0), (.int .u8 0), (.int .u8 0), (.string ⟨#[]⟩)]),
 sr 16 (tm 4) (tm 35),
 mo 5 (tm 36)])
 (.seq (.keep [1, 3, 4, 5])
 (.seq (.reg [mo 37 (tm 5),
 u1 38 .not 4 (tm 37) 4,
 mo 39 (tm 38),
 ⟨(some 40), (some (39, false)), .ldn 16 (tm 4)⟩,
 ⟨(some 41), (some (39, false)), .ldn 16 (tm 1)⟩,
 ⟨(some 42), (some (39, false)), .prim ⟨none, (.binOp .neq 56 (tm 40) (tm 41) 56), 4, "", #[], none⟩⟩,
 oo 43 (.pick (tm 39) (kB true) (tm 42))])
 (.cond (tm 43) (.seq (.reg [mo 2 (.const (.string ⟨#[]⟩))])
 .ret)
 .skip))))
 (.seq (.keep [3])
 (.seq (.reg [mo 44 (tm 3),
 mo 2 (tm 44)])
 .ret)))))))⟩

def lf117 : LFunc := ⟨2, [.tmp 4],
 (.seq (.reg [mo 4 (.const (.string ⟨#[]⟩))])
 (.seq (.reg [mo 5 (tm 1),
 ln 6 (tm 5) 9 3,
 cv 7 3 22 (tm 6) 22,
 oo 8 (.bslice 1 1 [(.int .u64 0)] [(0, 1, (tm 7))]),
 ca 9 118 [(tm 8)],
 mo 10 (tm 0),
 mo 11 (tm 1),
 oo 12 (.bslice 1 1 [(.string ⟨#[]⟩)] [(0, 1, (tm 11))]),
 ca 13 121 [(tm 10), (tm 12)],
 cv 14 33 22 (tm 13) 22,
 ca 15 155 [(tm 14), (ki 4)],
 b2 16 .add 9 (tm 9) (tm 15) 9 9,
 mo 17 (tm 1),
 b2 18 .add 9 (tm 16) (tm 17) 9 9,
 mo 4 (tm 18)])
 (.seq (.keep [4])
 .ret)))⟩

def lp118x0 : LCode := .loop (.seq (.keep [3, 5, 6, 7, 8, 9, 10])
 (.seq (.seq (.reg [mo 21 (tm 5),
 b2 22 .gtr 22 (tm 21) (ku 0) 22 4])
 (.cond (tm 22) .skip
 (.exit 2)))
 (.seq (.keep [3, 5, 6, 7, 8, 9, 10])
 (.seq (.block 3 (.seq (.reg [mo 25 (tm 7),
 b2 26 .sub 3 (tm 25) (ki 1) 3 3,
 mo 7 (tm 26)])
 (.reg [mo 27 (tm 7),
 mo 28 (tm 5),
 b2 29 .and 22 (tm 28) (ku 127) 22 22,
 cv 30 22 5 (tm 29) 5,
 b2 31 .or 5 (tm 30) (kb 128) 5 5,
 oo 32 (.iadra 10 1 (tm 6) (tm 27)),
 sr 1 (tm 32) (tm 31)])))
 (.seq (.keep [3, 5, 6, 7, 8, 9, 10])
 (.reg [mo 23 (tm 5),
 b2 24 .shr 22 (tm 23) (ku 7) 135 22,
 mo 5 (tm 24)]))))))

def lp118x1 : LCode := .loop (.seq (.keep [3, 8, 9, 10])
 (.seq (.reg [b2 11 .lss 3 (tm 10) (tm 9) 3 0])
 (.seq (.cond (tm 11) .skip
 (.exit 0))
 (.seq (.keep [3, 8, 9, 10])
 (.seq (.block 1 (.seq (.reg [is 12 1 (tm 8) (tm 10),
 l1 13 (tm 12),
 mo 5 (tm 13)])
 (.seq (.reg [oo 6 (.alloc [(.int .u8 0), (.int .u8 0), (.int .u8 0), (.int .u8 0), (.int .u8 0), (.int .u8 0), (.int .u8 0), (.int .u8 0), (.int .u8 0), (.int .u8 0)])])
 (.seq (.reg [mo 7 (ki 9)])
 (.seq (.reg [mo 14 (tm 7),
 mo 15 (tm 5),
 b2 16 .and 22 (tm 15) (ku 127) 22 22,
 cv 17 22 5 (tm 16) 5,
 oo 18 (.iadra 10 1 (tm 6) (tm 14)),
 sr 1 (tm 18) (tm 17)])
 (.seq (.seq (.reg [mo 19 (tm 5),
 b2 20 .shr 22 (tm 19) (ku 7) 135 22,
 mo 5 (tm 20)])
 (.block 2 lp118x0))
 (.seq (.keep [3, 6, 7, 8, 9, 10])
 (.reg [mo 33 (tm 3),
 mo 34 (tm 7),
 oo 35 (.slca 10 1 (tm 6) (some (tm 34)) none none),
 ap 36 1 1 (tm 33) (tm 35),
 mo 3 (tm 36)]))))))))
 (.seq (.keep [3, 8, 9, 10])
 (.reg [b2 37 .add 3 (tm 10) (ki 1) 3 3,
 mo 10 (tm 37)])))))))

def lf118 : LFunc := ⟨1, [.tmp 2],
 (.seq (.reg [mo 2 (.const (.string ⟨#[]⟩))])
 (.seq (.reg [mo 3 (.const (.slice none 0 0))])
 (.seq (.seq (.reg [mo 8 (tm 0),
 le 9 false (tm 8),
 mo 10 (ki 0)])
 (.block 0 lp118x1))
 (.seq (.keep [3])
 (.seq (.reg [mo 38 (tm 3),
 oo 39 (.cvbs (tm 38)),
 mo 2 (tm 39)])
 .ret)))))⟩

def lp119x0 : LCode := .loop (.seq (.keep [0, 2, 3])
 (.seq (.seq (.reg [mo 6 (tm 3),
 mo 7 (tm 0),
 ln 8 (tm 7) 9 3,
 b2 9 .lss 3 (tm 6) (tm 8) 3 4,
 mo 10 (tm 9),
 ⟨(some 11), (some (10, true)), .mv (tm 3)⟩,
 ⟨(some 12), (some (10, true)), .prim ⟨none, (.binOp .lss 3 (tm 11) (ki 10) 3), 4, "", #[], none⟩⟩,
 oo 13 (.pick (tm 10) (tm 12) (kB false))])
 (.seq (.keep [0, 2, 3, 13])
 (.cond (tm 13) .skip
 (.exit 0))))
 (.seq (.keep [0, 2, 3])
 (.block 1 (.seq (.reg [mo 14 (tm 0),
 mo 15 (tm 3),
 ix 16 9 (tm 14) (tm 15) 5,
 mo 5 (tm 16)])
 (.seq (.seq (.reg [mo 17 (tm 3),
 b2 18 .eql 3 (tm 17) (ki 0) 3 4,
 mo 19 (tm 18),
 ⟨(some 20), (some (19, true)), .mv (tm 5)⟩,
 ⟨(some 21), (some (19, true)), .prim ⟨none, (.binOp .eql 5 (tm 20) (kb 128) 5), 4, "", #[], none⟩⟩,
 oo 22 (.pick (tm 19) (tm 21) (kB false)),
 mo 23 (tm 22),
 ⟨(some 24), (some (23, false)), .mv (tm 2)⟩,
 ⟨(some 25), (some (23, false)), .prim ⟨none, (.binOp .shr 22 (tm 24) (ku 57) 135), 22, "", #[], none⟩⟩,
 ⟨(some 26), (some (23, false)), .prim ⟨none, (.binOp .gtr 22 (tm 25) (ku 0) 22), 4, "", #[], none⟩⟩,
 oo 27 (.pick (tm 23) (kB true) (tm 26))])
 (.seq (.keep [0, 2, 3, 5, 27])
 (.cond (tm 27) (.exit 0)
 .skip)))
 (.seq (.keep [0, 2, 3, 5])
 (.seq (.reg [mo 28 (tm 2),
 b2 29 .shl 22 (tm 28) (ku 7) 135 22,
 mo 30 (tm 5),
 b2 31 .and 5 (tm 30) (kb 127) 5 5,
 cv 32 5 22 (tm 31) 22,
 b2 33 .or 22 (tm 29) (tm 32) 22 22,
 mo 2 (tm 33)])
 (.seq (.reg [mo 34 (tm 3),
 b2 35 .add 3 (tm 34) (ki 1) 3 3,
 mo 3 (tm 35)])
 (.seq (.reg [mo 36 (tm 5),
 b2 37 .and 5 (tm 36) (kb 128) 5 5,
 b2 38 .eql 5 (tm 37) (kb 0) 5 4])
 (.cond (tm 38) (.seq (.reg [mo 39 (tm 2),
 mo 40 (tm 3),
 mo 2 (tm 39),
 mo 3 (tm 40),
 mo 4 (kB true)])
 .ret)
 .skip)))))))))))

def lf119 : LFunc := ⟨1, [.tmp 2, .tmp 3, .tmp 4],
 (.seq (.reg [mo 2 (ku 0),
 mo 3 (ki 0),
 mo 4 (kB false)])
 (.seq (.block 0 lp119x0)
 (.seq (.keep [])
 (.seq (.reg [mo 2 (ku 0),
 mo 3 (ki 0),
 mo 4 (kB false)])
 .ret))))⟩

def lp120x0 : LCode := .loop (.seq (.keep [0, 4, 19, 20])
 (.seq (.reg [b2 21 .lss 3 (tm 20) (tm 19) 3 4])
 (.seq (.cond (tm 21) .skip
 (.exit 0))
 (.seq (.keep [0, 4, 19, 20])
 (.seq (.block 1 (.seq (.reg [mo 22 (tm 20),
 mo 6 (tm 22)])
 (.reg [mo 23 (tm 4),
 b2 24 .shl 22 (tm 23) (ku 8) 135 22,
 mo 25 (tm 0),
 mo 26 (tm 6),
 ix 27 9 (tm 25) (tm 26) 5,
 cv 28 5 22 (tm 27) 22,
 b2 29 .or 22 (tm 24) (tm 28) 22 22,
 mo 4 (tm 29)])))
 (.seq (.keep [0, 4, 19, 20])
 (.reg [b2 30 .add 3 (tm 20) (ki 1) 3 3,
 mo 20 (tm 30)])))))))

def lf120 : LFunc := ⟨2, [.tmp 4, .tmp 5],
 (.seq (.reg [mo 4 (ku 0),
 mo 5 (kB false)])
 (.seq (.seq (.reg [mo 7 (tm 1),
 b2 8 .lss 3 (tm 7) (ki 1) 3 4,
 mo 9 (tm 8),
 ⟨(some 10), (some (9, false)), .mv (tm 1)⟩,
 ⟨(some 11), (some (9, false)), .prim ⟨none, (.binOp .gtr 3 (tm 10) (ki 8) 3), 4, "", #[], none⟩⟩,
 oo 12 (.pick (tm 9) (kB true) (tm 11)),
 mo 13 (tm 12),
 ⟨(some 14), (some (13, false)), .mv (tm 0)⟩,
 ⟨(some 15), (some (13, false)), .prim ⟨none, (.call ⟨.builtin .len, #[(tm 14)], #[9]⟩), 3, "", #[], none⟩⟩,
 ⟨(some 16), (some (13, false)), .mv (tm 1)⟩,
 ⟨(some 17), (some (13, false)), .prim ⟨none, (.binOp .lss 3 (tm 15) (tm 16) 3), 4, "", #[], none⟩⟩,
 oo 18 (.pick (tm 13) (kB true) (tm 17))])
 (.seq (.keep [0, 1, 4, 18])
 (.cond (tm 18) (.seq (.reg [mo 4 (ku 0),
 mo 5 (kB false)])
 .ret)
 .skip)))
 (.seq (.keep [0, 1, 4])
 (.seq (.seq (.reg [mo 19 (tm 1),
 mo 20 (ki 0)])
 (.block 0 lp120x0))
 (.seq (.keep [4])
 (.seq (.reg [mo 31 (tm 4),
 mo 4 (tm 31),
 mo 5 (kB true)])
 .ret))))))⟩

def lp121x0 : LCode := .loop (.seq (.keep [0, 5, 7, 11, 12, 13, 18, 19])
 (.seq (.reg [b2 20 .lss 3 (tm 19) (tm 18) 3 4])
 (.seq (.cond (tm 20) .skip
 (.exit 2))
 (.seq (.keep [0, 5, 7, 11, 12, 13, 18, 19])
 (.seq (.block 3 (.seq (.reg [mo 21 (tm 19),
 mo 8 (tm 21)])
 (.dreg [mo 22 (tm 5),
 b2 23 .shr 33 (tm 22) (ku 8) 135 33,
 mo 24 (tm 0),
 mo 25 (tm 5),
 cv 26 33 5 (tm 25) 5,
 mo 27 (tm 7),
 mo 28 (tm 8),
 ix 29 9 (tm 27) (tm 28) 5,
 b2 30 .xor 5 (tm 26) (tm 29) 5 5,
 nc 31 (tm 24),
 oo 32 (.iadra 256 1 (tm 31) (tm 30)),
 l1 33 (tm 32),
 b2 34 .xor 33 (tm 23) (tm 33) 33 33,
 mo 5 (tm 34)] [])))
 (.seq (.keep [0, 5, 7, 11, 12, 13, 18, 19])
 (.reg [b2 35 .add 3 (tm 19) (ki 1) 3 3,
 mo 19 (tm 35)])))))))

def lp121x1 : LCode := .loop (.seq (.keep [0, 5, 11, 12, 13])
 (.seq (.reg [b2 14 .lss 3 (tm 13) (tm 12) 3 0])
 (.seq (.cond (tm 14) .skip
 (.exit 0))
 (.seq (.keep [0, 5, 11, 12, 13])
 (.seq (.block 1 (.seq (.reg [is 15 1 (tm 11) (tm 13),
 l1 16 (tm 15),
 mo 7 (tm 16)])
 (.seq (.reg [mo 17 (tm 7),
 ln 18 (tm 17) 9 3,
 mo 19 (ki 0)])
 (.block 2 lp121x0))))
 (.seq (.keep [0, 5, 11, 12, 13])
 (.reg [b2 36 .add 3 (tm 13) (ki 1) 3 3,
 mo 13 (tm 36)])))))))

def lf121 : LFunc := ⟨2, [.tmp 4],
 (.seq (.reg [mo 4 (.const (.int .u32 0))])
 (.seq (.seq (.reg [mo 9 (tm 0),
 oo 10 (.cmpref 0 false (tm 9) (.const (.pointer none)))])
 (.cond (tm 10) (.seq (.reg [mo 4 (.const (.int .u32 0))])
 .ret)
 .skip))
 (.seq (.keep [0, 1])
 (.seq (.reg [mo 5 (.const (.int .u32 4294967295))])
 (.seq (.seq (.reg [mo 11 (tm 1),
 le 12 false (tm 11),
 mo 13 (ki 0)])
 (.block 0 lp121x1))
 (.seq (.keep [5])
 (.seq (.reg [mo 37 (tm 5),
 u1 38 .xor 33 (tm 37) 33,
 mo 4 (tm 38)])
 .ret)))))))⟩

def lf122 : LFunc := ⟨1, [.ldn 2 13, .tmp 3],
 (.seq (.reg [oo 2 (.alloc [(.int .u64 0), (.int .u64 0), (.int .u8 0), (.int .u8 0), (.int .u8 0), (.int .u8 0), (.int .u8 0), (.int .u8 0), (.int .u8 0), (.int .u8 0), (.int .u8 0), (.int .u8 0), (.string ⟨#[]⟩)]),
 mo 3 (kB false)])
 (.seq (.seq (.reg [mo 12 (tm 0),
 b2 13 .eql 9 (tm 12) (.const (.string ⟨#[]⟩)) 9 4])
 (.cond (tm 13) (.seq (.reg [oo 14 (.build [(.int .u64 0), (.int .u64 0), (.int .u8 0), (.int .u8 0), (.int .u8 0), (.int .u8 0), (.int .u8 0), (.int .u8 0), (.int .u8 0), (.int .u8 0), (.int .u8 0), (.int .u8 0), (.string ⟨#[]⟩)] []),
 sr 13 (tm 2) (tm 14),
 mo 3 (kB false)])
 .ret)
 .skip))
 (.seq (.keep [0, 2])
 (.seq (.reg [mo 15 (tm 0),
 ix 16 9 (tm 15) (ki 0) 5,
 oo 17 (.build [(.int .u64 0), (.int .u64 0), (.int .u8 0), (.int .u8 0), (.int .u8 0), (.int .u8 0), (.int .u8 0), (.int .u8 0), (.int .u8 0), (.int .u8 0), (.int .u8 0), (.int .u8 0), (.string ⟨#[]⟩)] [(2, 1, (tm 16))]),
 oo 4 (.alloc [(.int .u64 0), (.int .u64 0), (.int .u8 0), (.int .u8 0), (.int .u8 0), (.int .u8 0), (.int .u8 0), (.int .u8 0), (.int .u8 0), (.int .u8 0), (.int .u8 0), (.int .u8 0), (.string ⟨#[]⟩)]),
 sr 13 (tm 4) (tm 17)])
 (.seq (.reg [mo 19 (tm 0),
 oo 20 (.slcs (tm 19) (some (ki 1)) none),
 ca 21 119 [(tm 20)],
 mo 18 (tm 21),
 ex 22 (tm 18) 0,
 ex 23 (tm 18) 1,
 ex 24 (tm 18) 2,
 mo 5 (tm 22),
 mo 6 (tm 23),
 mo 7 (tm 24)])
 (.seq (.keep [0, 2, 4, 5, 6])
 (.seq (.reg [mo 26 (tm 0),
 mo 27 (tm 6),
 b2 28 .add 3 (ki 1) (tm 27) 3 3,
 oo 29 (.slcs (tm 26) (some (tm 28)) none),
 ca 30 119 [(tm 29)],
 mo 25 (tm 30),
 ex 31 (tm 25) 0,
 ex 32 (tm 25) 1,
 ex 33 (tm 25) 2,
 mo 8 (tm 31),
 mo 9 (tm 32),
 mo 10 (tm 33)])
 (.seq (.keep [0, 2, 4, 5, 6, 8, 9])
 (.seq (.reg [mo 34 (tm 5),
 mo 35 (tm 8),
 fa 36 0 (tm 4),
 sr 1 (tm 36) (tm 34),
 fa 37 1 (tm 4),
 sr 1 (tm 37) (tm 35)])
 (.seq (.reg [mo 38 (tm 0),
 mo 39 (tm 6),
 b2 40 .add 3 (ki 1) (tm 39) 3 3,
 mo 41 (tm 9),
 b2 42 .add 3 (tm 40) (tm 41) 3 3,
 oo 43 (.slcs (tm 38) (some (tm 42)) none),
 mo 11 (tm 43)])
 (.seq (.seq (.reg [fa 44 2 (tm 4),
 l1 45 (tm 44),
 b2 46 .eql 5 (tm 45) (kb 3) 5 4,
 mo 47 (tm 46),
 ⟨(some 48), (some (47, true)), .mv (tm 11)⟩,
 ⟨(some 49), (some (47, true)), .prim ⟨none, (.call ⟨.builtin .len, #[(tm 48)], #[9]⟩), 3, "", #[], none⟩⟩,
 ⟨(some 50), (some (47, true)), .prim ⟨none, (.binOp .gtr 3 (tm 49) (ki 8) 3), 4, "", #[], none⟩⟩,
 oo 51 (.pick (tm 47) (tm 50) (kB false))])
 (.seq (.keep [0, 2, 4, 11, 51])
 (.cond (tm 51) (.seq (.reg [mo 52 (tm 11),
 ix 53 9 (tm 52) (ki 0) 5,
 fa 54 3 (tm 4),
 sr 1 (tm 54) (tm 53)])
 (.dreg [mo 55 (tm 11),
 fa 56 4 (tm 4),
 oo 57 (.slca 8 1 (tm 56) none none none),
 mo 58 (tm 11),
 oo 59 (.slcs (tm 58) (some (ki 1)) none),
 oo 60 (.copy 1 (tm 57) (tm 59)),
 b2 61 .add 3 (ki 1) (tm 60) 3 3,
 oo 62 (.slcs (tm 55) (some (tm 61)) none),
 mo 11 (tm 62)] []))
 .skip)))
 (.seq (.keep [0, 2, 4, 11])
 (.seq (.reg [mo 64 (tm 11),
 ca 65 162 [(tm 64)],
 mo 63 (tm 65),
 ex 66 (tm 63) 0,
 ex 67 (tm 63) 1,
 ex 68 (tm 63) 2,
 fa 69 12 (tm 4),
 sr 1 (tm 69) (tm 66)])
 (.seq (.keep [0, 2, 4])
 (.seq (.seq (.reg [l2 70 13 (tm 4),
 ca 71 161 [(tm 70)],
 mo 72 (tm 0),
 b2 73 .neq 9 (tm 71) (tm 72) 9 4])
 (.cond (tm 73) (.seq (.reg [oo 74 (.build [(.int .u64 0), (.int .u64 0), (.int .u8 0), (.int .u8 0), (.int .u8 0), (.int .u8 0), (.int .u8 0), (.int .u8 0), (.int .u8 0), (.int .u8 0), (.int .u8 0), (.int .u8 0), (.string ⟨#[]⟩)] []),
 sr 13 (tm 2) (tm 74),
 mo 3 (kB false)])
 .ret)
 .skip))
 (.seq (.keep [2, 4])
 (.seq (.reg [l2 75 13 (tm 4),
 sr 13 (tm 2) (tm 75),
 mo 3 (kB true)])
 .ret)))))))))))))))))⟩

def lf125 : LFunc := ⟨2, [.tmp 4],
 (.seq (.reg [mo 4 (.const (.string ⟨#[]⟩))])
 (.seq (.seq (.reg [mo 5 (tm 0),
 mo 6 (tm 1),
 ca 7 169 [(tm 5), (tm 6)]])
 (.cond (tm 7) (.seq (.reg [mo 8 (tm 0),
 mo 9 (tm 1),
 ln 10 (tm 9) 9 3,
 oo 11 (.slcs (tm 8) (some (tm 10)) none),
 mo 4 (tm 11)])
 .ret)
 .skip))
 (.seq (.keep [0])
 (.seq (.reg [mo 12 (tm 0),
 mo 4 (tm 12)])
 .ret))))⟩

def lp133x0 : LCode := .loop (.seq (.keep [0, 1, 2, 3, 8, 9])
 (.block 1 (.seq (.reg [mo 19 (tm 2),
 mo 20 (tm 1),
 b2 21 .sub 3 (tm 19) (tm 20) 3 3,
 mo 10 (tm 21)])
 (.seq (.seq (.reg [mo 22 (tm 10),
 b2 23 .leq 3 (tm 22) (ki 12) 3 4])
 (.cond (tm 23) (.seq (.reg [mo 24 (tm 0),
 mo 25 (tm 1),
 mo 26 (tm 2),
 ca 27 178 [(tm 24), (tm 25), (tm 26)]])
 .ret)
 .skip))
 (.seq (.keep [0, 1, 2, 3, 8, 9, 10])
 (.seq (.seq (.reg [mo 28 (tm 3),
 b2 29 .eql 3 (tm 28) (ki 0) 3 4])
 (.cond (tm 29) (.seq (.reg [mo 30 (tm 0),
 mo 31 (tm 1),
 mo 32 (tm 2),
 ca 33 179 [(tm 30), (tm 31), (tm 32)]])
 .ret)
 .skip))
 (.seq (.keep [0, 1, 2, 3, 8, 9, 10])
 (.seq (.seq (.reg [mo 34 (tm 8),
 u1 35 .not 4 (tm 34) 4])
 (.cond (tm 35) (.seq (.reg [mo 36 (tm 0),
 mo 37 (tm 1),
 mo 38 (tm 2),
 ca 39 180 [(tm 36), (tm 37), (tm 38)]])
 (.reg [mo 40 (tm 3),
 b2 41 .sub 3 (tm 40) (ki 1) 3 3,
 mo 3 (tm 41)]))
 .skip))
 (.seq (.keep [0, 1, 2, 3, 8, 9, 10])
 (.seq (.reg [mo 43 (tm 0),
 mo 44 (tm 1),
 mo 45 (tm 2),
 ca 46 181 [(tm 43), (tm 44), (tm 45)],
 mo 42 (tm 46),
 ex 47 (tm 42) 0,
 ex 48 (tm 42) 1,
 mo 11 (tm 47),
 mo 12 (tm 48)])
 (.seq (.keep [0, 1, 2, 3, 8, 9, 10, 11, 12])
 (.seq (.seq (.reg [mo 49 (tm 12),
 b2 50 .eql 246 (tm 49) (ki 2) 246 4])
 (.cond (tm 50) (.seq (.reg [mo 51 (tm 0),
 mo 52 (tm 1),
 mo 53 (tm 2),
 ca 54 182 [(tm 51), (tm 52), (tm 53)]])
 (.seq (.reg [mo 55 (tm 2),
 b2 56 .sub 3 (tm 55) (ki 1) 3 3,
 mo 57 (tm 11),
 mo 58 (tm 1),
 b2 59 .sub 3 (tm 57) (tm 58) 3 3,
 b2 60 .sub 3 (tm 56) (tm 59) 3 3,
 mo 11 (tm 60)])
 (.reg [mo 12 (ki 1)])))
 .skip))
 (.seq (.keep [0, 1, 2, 3, 8, 9, 10, 11, 12])
 (.seq (.seq (.reg [mo 61 (tm 8),
 mo 62 (tm 61),
 ⟨(some 63), (some (62, true)), .mv (tm 9)⟩,
 oo 64 (.pick (tm 62) (tm 63) (kB false)),
 mo 65 (tm 64),
 ⟨(some 66), (some (65, true)), .mv (tm 12)⟩,
 ⟨(some 67), (some (65, true)), .prim ⟨none, (.binOp .eql 246 (tm 66) (ki 1) 246), 4, "", #[], none⟩⟩,
 oo 68 (.pick (tm 65) (tm 67) (kB false))])
 (.seq (.keep [0, 1, 2, 3, 8, 9, 10, 11, 68])
 (.cond (tm 68) (.seq (.reg [mo 69 (tm 0),
 mo 70 (tm 1),
 mo 71 (tm 2),
 ca 72 183 [(tm 69), (tm 70), (tm 71)]])
 (.cond (tm 72) .ret
 .skip))
 .skip)))
 (.seq (.keep [0, 1, 2, 3, 8, 9, 10, 11])
 (.seq (.seq (.dreg [mo 73 (tm 1),
 b2 74 .gtr 3 (tm 73) (ki 0) 3 4,
 mo 75 (tm 74),
 ⟨(some 76), (some (75, true)), .mv (tm 0)⟩,
 ⟨(some 77), (some (75, true)), .mv (tm 1)⟩,
 ⟨(some 78), (some (75, true)), .prim ⟨none, (.binOp .sub 3 (tm 77) (ki 1) 3), 3, "", #[], none⟩⟩,
 ⟨(some 79), (some (75, true)), .iadrs 1 (tm 76) (tm 78)⟩,
 ⟨(some 80), (some (75, true)), .ld1 (tm 79)⟩,
 ⟨(some 81), (some (75, true)), .mv (tm 0)⟩,
 ⟨(some 82), (some (75, true)), .mv (tm 11)⟩,
 ⟨(some 83), (some (75, true)), .iadrs 1 (tm 81) (tm 82)⟩,
 ⟨(some 84), (some (75, true)), .ld1 (tm 83)⟩,
 ⟨(some 85), (some (75, true)), .call 184 [(tm 80), (tm 84)]⟩,
 ⟨(some 86), (some (75, true)), .prim ⟨none, (.unOp .not 4 (tm 85)), 4, "", #[], none⟩⟩,
 oo 87 (.pick (tm 75) (tm 86) (kB false))] [])
 (.seq (.keep [0, 1, 2, 3, 8, 9, 10, 11, 87])
 (.cond (tm 87) (.seq (.reg [mo 88 (tm 0),
 mo 89 (tm 1),
 mo 90 (tm 2),
 mo 91 (tm 11),
 ca 92 185 [(tm 88), (tm 89), (tm 90), (tm 91)],
 mo 13 (tm 92)])
 (.seq (.reg [mo 93 (tm 13),
 mo 1 (tm 93)])
 (.exit 1)))
 .skip)))
 (.seq (.keep [0, 1, 2, 3, 10, 11])
 (.seq (.reg [mo 95 (tm 0),
 mo 96 (tm 1),
 mo 97 (tm 2),
 mo 98 (tm 11),
 ca 99 186 [(tm 95), (tm 96), (tm 97), (tm 98)],
 mo 94 (tm 99),
 ex 100 (tm 94) 0,
 ex 101 (tm 94) 1,
 mo 14 (tm 100),
 mo 15 (tm 101)])
 (.seq (.keep [0, 1, 2, 3, 10, 14, 15])
 (.seq (.reg [mo 102 (tm 15),
 mo 9 (tm 102)])
 (.seq (.reg [mo 103 (tm 14),
 mo 104 (tm 1),
 b2 105 .sub 3 (tm 103) (tm 104) 3 3,
 mo 106 (tm 2),
 mo 107 (tm 14),
 b2 108 .sub 3 (tm 106) (tm 107) 3 3,
 mo 16 (tm 105),
 mo 17 (tm 108)])
 (.seq (.keep [0, 1, 2, 3, 9, 10, 14, 16, 17])
 (.seq (.reg [mo 109 (tm 10),
 b2 110 .quo 3 (tm 109) (ki 8) 3 3,
 mo 18 (tm 110)])
 (.seq (.reg [mo 111 (tm 16),
 mo 112 (tm 17),
 b2 113 .lss 3 (tm 111) (tm 112) 3 4])
 (.cond (tm 113) (.seq (.reg [mo 114 (tm 16),
 mo 115 (tm 18),
 b2 116 .geq 3 (tm 114) (tm 115) 3 4,
 mo 8 (tm 116)])
 (.seq (.reg [mo 117 (tm 0),
 mo 118 (tm 1),
 mo 119 (tm 14),
 mo 120 (tm 3),
 ca 121 133 [(tm 117), (tm 118), (tm 119), (tm 120)]])
 (.reg [mo 122 (tm 14),
 b2 123 .add 3 (tm 122) (ki 1) 3 3,
 mo 1 (tm 123)])))
 (.seq (.reg [mo 124 (tm 17),
 mo 125 (tm 18),
 b2 126 .geq 3 (tm 124) (tm 125) 3 4,
 mo 8 (tm 126)])
 (.seq (.reg [mo 127 (tm 0),
 mo 128 (tm 14),
 b2 129 .add 3 (tm 128) (ki 1) 3 3,
 mo 130 (tm 2),
 mo 131 (tm 3),
 ca 132 133 [(tm 127), (tm 129), (tm 130), (tm 131)]])
 (.reg [mo 133 (tm 14),
 mo 2 (tm 133)]))))))))))))))))))))))))))))

def lf133 : LFunc := ⟨4, [],
 (.seq (.reg [mo 8 (kB true)])
 (.seq (.reg [mo 9 (kB true)])
 (.block 0 lp133x0)))⟩

def lf134 : LFunc := ⟨1, [.tmp 2],
 (.seq (.reg [mo 2 (ki 0)])
 (.seq (.cond (kB false) (.seq (.reg [mo 3 (tm 0),
 cv 4 135 33 (tm 3) 33,
 ca 5 187 [(tm 4)],
 mo 2 (tm 5)])
 .ret)
 .skip)
 (.seq (.keep [0])
 (.seq (.reg [mo 6 (tm 0),
 ca 7 188 [(tm 6)],
 mo 2 (tm 7)])
 .ret))))⟩

def lp135x0 : LCode := .loop (.seq (.keep [0, 3])
 (.seq (.seq (.reg [mo 4 (tm 3),
 mo 5 (tm 0),
 le 6 false (tm 5),
 b2 7 .lss 3 (tm 4) (tm 6) 3 4])
 (.cond (tm 7) .skip
 (.exit 0)))
 (.seq (.keep [0, 3])
 (.seq (.block 1 (.seq (.reg [mo 10 (tm 0),
 mo 11 (tm 3),
 is 12 16 (tm 10) (tm 11),
 l2 13 16 (tm 12),
 ca 14 66 [(tm 13)],
 u1 15 .not 4 (tm 14) 4])
 (.cond (tm 15) (.seq (.reg [mo 2 (kB false)])
 .ret)
 .skip)))
 (.seq (.keep [0, 3])
 (.reg [mo 8 (tm 3),
 b2 9 .add 3 (tm 8) (ki 1) 3 3,
 mo 3 (tm 9)]))))))

def lf135 : LFunc := ⟨1, [.tmp 2],
 (.seq (.reg [mo 2 (kB false)])
 (.seq (.seq (.reg [mo 3 (ki 0)])
 (.block 0 lp135x0))
 (.seq (.keep [])
 (.seq (.reg [mo 2 (kB true)])
 .ret))))⟩

def lp136x0 : LCode := .loop (.seq (.keep [0, 1, 2, 7])
 (.seq (.seq (.reg [mo 9 (tm 7),
 mo 10 (tm 2),
 le 11 false (tm 10),
 b2 12 .lss 3 (tm 9) (tm 11) 3 4])
 (.cond (tm 12) .skip
 (.exit 0)))
 (.seq (.keep [0, 1, 2, 7])
 (.seq (.block 1 (.seq (.reg [mo 15 (tm 0),
 mo 16 (tm 1),
 mo 17 (tm 2),
 mo 18 (tm 7),
 is 19 1 (tm 17) (tm 18),
 l1 20 (tm 19),
 ca 21 189 [(tm 20)],
 ca 22 142 [(tm 15), (tm 16), (tm 21)],
 mo 8 (tm 22)])
 (.seq (.keep [0, 1, 2, 7, 8])
 (.seq (.reg [mo 23 (tm 8),
 b2 24 .neq 39 (tm 23) (ki 0) 39 4])
 (.cond (tm 24) (.seq (.reg [mo 25 (tm 8),
 mo 6 (tm 25)])
 .ret)
 .skip)))))
 (.seq (.keep [0, 1, 2, 7])
 (.reg [mo 13 (tm 7),
 b2 14 .add 3 (tm 13) (ki 1) 3 3,
 mo 7 (tm 14)]))))))

def lf136 : LFunc := ⟨3, [.tmp 6],
 (.seq (.reg [mo 6 (ki 0)])
 (.seq (.seq (.reg [mo 7 (ki 0)])
 (.block 0 lp136x0))
 (.seq (.keep [0, 1])
 (.seq (.reg [mo 26 (tm 0),
 mo 27 (tm 1),
 ca 28 143 [(tm 26), (tm 27)],
 mo 6 (tm 28)])
 .ret))))⟩

def lf137 : LFunc := ⟨2, [.tmp 4],
 (.seq (.reg [mo 4 (.const (.string ⟨#[]⟩))])
 (.seq (.reg [mo 5 (tm 0),
 cv 6 3 22 (tm 5) 22,
 mo 7 (tm 1),
 oo 8 (.bslice 1 2 [(.int .u64 0)] [(0, 1, (tm 6)), (1, 1, (tm 7))]),
 ca 9 190 [(tm 8)],
 b2 10 .add 9 (.const (.string ⟨#[1]⟩)) (tm 9) 9 9,
 mo 4 (tm 10)])
 .ret))⟩

def lp138x0 : LCode := .loop (.seq (.keep [0, 3, 4])
 (.seq (.seq (.reg [mo 5 (tm 4),
 mo 6 (tm 0),
 le 7 false (tm 6),
 b2 8 .lss 3 (tm 5) (tm 7) 3 4])
 (.cond (tm 8) .skip
 (.exit 0)))
 (.seq (.keep [0, 3, 4])
 (.seq (.block 1 (.reg [mo 11 (tm 3),
 mo 12 (tm 0),
 mo 13 (tm 4),
 is 14 16 (tm 12) (tm 13),
 l2 15 16 (tm 14),
 ca 16 191 [(tm 15)],
 oo 17 (.bslice 1 1 [(.string ⟨#[]⟩)] [(0, 1, (tm 16))]),
 ap 18 1 16 (tm 11) (tm 17),
 mo 3 (tm 18)]))
 (.seq (.keep [0, 3, 4])
 (.reg [mo 9 (tm 4),
 b2 10 .add 3 (tm 9) (ki 1) 3 3,
 mo 4 (tm 10)]))))))

def lf138 : LFunc := ⟨1, [.tmp 2],
 (.seq (.reg [mo 2 (.const (.slice none 0 0))])
 (.seq (.reg [mo 3 (.const (.slice none 0 0))])
 (.seq (.seq (.reg [mo 4 (ki 0)])
 (.block 0 lp138x0))
 (.seq (.keep [3])
 (.seq (.reg [mo 19 (tm 3),
 mo 2 (tm 19)])
 .ret)))))⟩

def lf139 : LFunc := ⟨2, [.tmp 4, .tmp 5],
 (.seq (.reg [mo 4 (.const (.string ⟨#[]⟩)),
 mo 5 (ki 0)])
 (.seq (.seq (.reg [mo 7 (tm 0),
 nc 8 (tm 7),
 fa 9 1 (tm 8),
 l1 10 (tm 9)])
 (.cond (tm 10) (.seq (.reg [mo 4 (.const (.string ⟨#[]⟩)),
 mo 5 (ki 7)])
 .ret)
 .skip))
 (.seq (.keep [0, 1])
 (.seq (.reg [mo 11 (tm 0),
 mo 12 (tm 1),
 ca 13 192 [(tm 11), (tm 12)],
 mo 6 (tm 13)])
 (.seq (.seq (.reg [mo 14 (tm 6),
 b2 15 .lss 3 (tm 14) (ki 0) 3 4])
 (.cond (tm 15) (.seq (.reg [mo 4 (.const (.string ⟨#[]⟩)),
 mo 5 (ki 4)])
 .ret)
 .skip))
 (.seq (.keep [0, 6])
 (.seq (.reg [mo 16 (tm 0),
 nc 17 (tm 16),
 fa 18 0 (tm 17),
 l1 19 (tm 18),
 mo 20 (tm 6),
 is 21 5 (tm 19) (tm 20),
 l2 22 5 (tm 21),
 ca 23 193 [(tm 22)],
 mo 4 (tm 23),
 mo 5 (ki 0)])
 (.seq (.keep [4, 5])
 .ret))))))))⟩

def lp140x0 : LCode := .loop (.seq (.keep [5, 6, 9, 11, 12])
 (.seq (.seq (.reg [mo 62 (tm 12),
 mo 63 (tm 5),
 le 64 false (tm 63),
 b2 65 .lss 3 (tm 62) (tm 64) 3 4])
 (.cond (tm 65) .skip
 (.exit 0)))
 (.seq (.keep [5, 6, 9, 11, 12])
 (.seq (.block 1 (.seq (.reg [mo 69 (tm 5),
 mo 70 (tm 12),
 is 71 1 (tm 69) (tm 70),
 l1 72 (tm 71),
 ca 73 196 [(tm 72)],
 mo 68 (tm 73),
 ex 74 (tm 68) 0,
 ex 75 (tm 68) 1,
 oo 13 (.alloc [(.int .u8 0), (.int .u64 0), (.int .u8 0), (.int .u64 0), (.int .u64 0), (.int .u8 0), (.int .u8 0), (.int .u8 0), (.int .u8 0), (.int .u8 0), (.int .u8 0), (.int .u8 0), (.int .u8 0), (.int .u8 0), (.int .u8 0), (.string ⟨#[]⟩)]),
 sr 16 (tm 13) (tm 74),
 mo 14 (tm 75)])
 (.seq (.keep [5, 6, 9, 11, 12, 13, 14])
 (.seq (.seq (.reg [mo 76 (tm 14),
 u1 77 .not 4 (tm 76) 4])
 (.cond (tm 77) (.exit 0)
 .skip))
 (.seq (.keep [5, 6, 9, 11, 12, 13])
 (.reg [mo 78 (tm 11),
 l2 79 16 (tm 13),
 oo 80 (.bslice 16 1 [(.int .u8 0), (.int .u64 0), (.int .u8 0), (.int .u64 0), (.int .u64 0), (.int .u8 0), (.int .u8 0), (.int .u8 0), (.int .u8 0), (.int .u8 0), (.int .u8 0), (.int .u8 0), (.int .u8 0), (.int .u8 0), (.int .u8 0), (.string ⟨#[]⟩)] [(0, 16, (tm 79))]),
 ap 81 16 72 (tm 78) (tm 80),
 mo 11 (tm 81)]))))))
 (.seq (.keep [5, 6, 9, 11, 12])
 (.reg [mo 66 (tm 12),
 b2 67 .add 3 (tm 66) (ki 1) 3 3,
 mo 12 (tm 67)]))))))

def lf140 : LFunc := ⟨1, [.tmp 2, .tmp 3, .tmp 4],
 (.seq (.reg [mo 2 (ku 0),
 mo 3 (.const (.slice none 0 0)),
 mo 4 (kB false)])
 (.seq (.reg [mo 15 (tm 0),
 ca 16 194 [(tm 15)],
 mo 5 (tm 16)])
 (.seq (.seq (.reg [mo 17 (tm 5),
 le 18 false (tm 17),
 b2 19 .eql 3 (tm 18) (ki 0) 3 4,
 mo 20 (tm 19),
 ⟨(some 21), (some (20, false)), .mv (tm 5)⟩,
 ⟨(some 22), (some (20, false)), .iadrs 1 (tm 21) (ki 0)⟩,
 ⟨(some 23), (some (20, false)), .ld1 (tm 22)⟩,
 ⟨(some 24), (some (20, false)), .prim ⟨none, (.call ⟨.builtin .len, #[(tm 23)], #[9]⟩), 3, "", #[], none⟩⟩,
 ⟨(some 25), (some (20, false)), .prim ⟨none, (.binOp .lss 3 (tm 24) (ki 3) 3), 4, "", #[], none⟩⟩,
 oo 26 (.pick (tm 20) (kB true) (tm 25))])
 (.seq (.keep [5, 26])
 (.cond (tm 26) (.seq (.reg [mo 2 (ku 0),
 mo 3 (.const (.slice none 0 0)),
 mo 4 (kB false)])
 .ret)
 .skip)))
 (.seq (.keep [5])
 (.seq (.reg [mo 28 (tm 5),
 is 29 1 (tm 28) (ki 0),
 l1 30 (tm 29),
 oo 31 (.slcs (tm 30) (some (ki 1)) none),
 ca 32 195 [(tm 31)],
 mo 27 (tm 32),
 ex 33 (tm 27) 0,
 ex 34 (tm 27) 1,
 ex 35 (tm 27) 2,
 mo 6 (tm 33),
 mo 7 (tm 34),
 mo 8 (tm 35)])
 (.seq (.keep [5, 6, 7, 8])
 (.seq (.seq (.reg [mo 36 (tm 8),
 u1 37 .not 4 (tm 36) 4])
 (.cond (tm 37) (.seq (.reg [mo 2 (ku 0),
 mo 3 (.const (.slice none 0 0)),
 mo 4 (kB false)])
 .ret)
 .skip))
 (.seq (.keep [5, 6, 7])
 (.seq (.reg [mo 39 (tm 5),
 is 40 1 (tm 39) (ki 0),
 l1 41 (tm 40),
 mo 42 (tm 7),
 b2 43 .add 3 (ki 1) (tm 42) 3 3,
 oo 44 (.slcs (tm 41) (some (tm 43)) none),
 ca 45 195 [(tm 44)],
 mo 38 (tm 45),
 ex 46 (tm 38) 0,
 ex 47 (tm 38) 1,
 ex 48 (tm 38) 2,
 mo 9 (tm 46),
 mo 10 (tm 47),
 mo 8 (tm 48)])
 (.seq (.keep [5, 6, 8, 9])
 (.seq (.seq (.dreg [mo 49 (tm 8),
 u1 50 .not 4 (tm 49) 4,
 mo 51 (tm 50),
 ⟨(some 52), (some (51, false)), .mv (tm 6)⟩,
 ⟨(some 53), (some (51, false)), .mv (tm 9)⟩,
 ⟨(some 54), (some (51, false)), .bslice 1 2 [(.int .u64 0)] [(0, 1, (tm 52)), (1, 1, (tm 53))]⟩,
 ⟨(some 55), (some (51, false)), .call 190 [(tm 54)]⟩,
 ⟨(some 56), (some (51, false)), .prim ⟨none, (.binOp .add 9 (.const (.string ⟨#[1]⟩)) (tm 55) 9), 9, "", #[], none⟩⟩,
 ⟨(some 57), (some (51, false)), .mv (tm 5)⟩,
 ⟨(some 58), (some (51, false)), .iadrs 1 (tm 57) (ki 0)⟩,
 ⟨(some 59), (some (51, false)), .ld1 (tm 58)⟩,
 ⟨(some 60), (some (51, false)), .prim ⟨none, (.binOp .neq 9 (tm 56) (tm 59) 9), 4, "", #[], none⟩⟩,
 oo 61 (.pick (tm 51) (kB true) (tm 60))] [(10, 0, 1)])
 (.seq (.keep [5, 6, 9, 61])
 (.cond (tm 61) (.seq (.reg [mo 2 (ku 0),
 mo 3 (.const (.slice none 0 0)),
 mo 4 (kB false)])
 .ret)
 .skip)))
 (.seq (.keep [5, 6, 9])
 (.seq (.reg [mo 11 (.const (.slice none 0 0))])
 (.seq (.seq (.reg [mo 12 (ki 1)])
 (.block 0 lp140x0))
 (.seq (.keep [6, 9, 11])
 (.seq (.reg [mo 82 (tm 9),
 mo 83 (tm 11),
 mo 84 (tm 11),
 le 85 false (tm 84),
 cv 86 3 22 (tm 85) 22,
 mo 87 (tm 6),
 b2 88 .geq 22 (tm 86) (tm 87) 22 4,
 mo 2 (tm 82),
 mo 3 (tm 83),
 mo 4 (tm 88)])
 (.seq (.keep [2, 3, 4])
 .ret)))))))))))))))))⟩

def lf141 : LFunc := ⟨3, [.tmp 6],
 (.seq (.reg [oo 3 (.box (tm 0)),
 oo 4 (.box (tm 1)),
 oo 5 (.box (tm 2)),
 mo 6 (ki 0)])
 (.seq (.seq (.reg [l1 8 (tm 3),
 ca 9 83 [(tm 8)],
 mo 7 (tm 9)])
 (.seq (.reg [mo 10 (tm 7),
 b2 11 .neq 39 (tm 10) (ki 0) 39 4])
 (.cond (tm 11) (.seq (.reg [mo 12 (tm 7),
 mo 6 (tm 12)])
 .ret)
 .skip)))
 (.seq (.keep [3, 4, 5])
 (.seq (.seq (.reg [l1 13 (tm 5),
 ca 14 102 [(tm 13)],
 u1 15 .not 4 (tm 14) 4])
 (.cond (tm 15) (.seq (.reg [mo 6 (ki 1)])
 .ret)
 .skip))
 (.seq (.keep [3, 4, 5])
 (.seq (.reg [l1 16 (tm 3),
 l1 17 (tm 4),
 oo 18 (.mkfunc 197 [] [(tm 3), (tm 4), (tm 5)]),
 ca 19 153 [(tm 16), (tm 17), (tm 18)],
 mo 6 (tm 19)])
 .ret))))))⟩

def lf142 : LFunc := ⟨3, [.tmp 6],
 (.seq (.reg [mo 6 (ki 0)])
 (.seq (.seq (.reg [mo 9 (tm 0),
 nc 10 (tm 9),
 fa 11 1 (tm 10),
 l1 12 (tm 11)])
 (.cond (tm 12) (.seq (.reg [mo 6 (ki 7)])
 .ret)
 .skip))
 (.seq (.keep [0, 1, 2])
 (.seq (.seq (.reg [mo 13 (tm 1),
 ca 14 198 [(tm 13)],
 u1 15 .not 4 (tm 14) 4,
 mo 16 (tm 15),
 ⟨(some 17), (some (16, false)), .mv (tm 2)⟩,
 ⟨(some 18), (some (16, false)), .prim ⟨none, (.call ⟨.builtin .len, #[(tm 17)], #[9]⟩), 3, "", #[], none⟩⟩,
 ⟨(some 19), (some (16, false)), .prim ⟨none, (.binOp .eql 3 (tm 18) (ki 0) 3), 4, "", #[], none⟩⟩,
 oo 20 (.pick (tm 16) (kB true) (tm 19))])
 (.seq (.keep [0, 1, 2, 20])
 (.cond (tm 20) (.seq (.reg [mo 6 (ki 1)])
 .ret)
 .skip)))
 (.seq (.keep [0, 1, 2])
 (.seq (.reg [mo 21 (tm 1),
 oo 22 (.build [(.string ⟨#[]⟩), (.slice none 0 0), (.int .i64 0), (.bool false), (.string ⟨#[]⟩)] [(0, 1, (tm 21))]),
 oo 7 (.alloc [(.string ⟨#[]⟩), (.slice none 0 0), (.int .i64 0), (.bool false), (.string ⟨#[]⟩)]),
 sr 5 (tm 7) (tm 22)])
 (.seq (.reg [mo 23 (tm 0),
 mo 24 (tm 1),
 ca 25 192 [(tm 23), (tm 24)],
 mo 8 (tm 25)])
 (.seq (.seq (.reg [mo 26 (tm 8),
 b2 27 .geq 3 (tm 26) (ki 0) 3 4])
 (.cond (tm 27) (.reg [mo 28 (tm 0),
 nc 29 (tm 28),
 fa 30 0 (tm 29),
 l1 31 (tm 30),
 mo 32 (tm 8),
 is 33 5 (tm 31) (tm 32),
 l2 34 5 (tm 33),
 sr 5 (tm 7) (tm 34)])
 .skip))
 (.seq (.keep [0, 2, 7])
 (.seq (.seq (.reg [fa 35 3 (tm 7),
 l1 36 (tm 35)])
 (.cond (tm 36) (.seq (.reg [mo 6 (ki 9)])
 .ret)
 .skip))
 (.seq (.keep [0, 2, 7])
 (.seq (.seq (.reg [mo 37 (tm 0),
 ca 38 199 [(tm 37)],
 u1 39 .not 4 (tm 38) 4])
 (.cond (tm 39) (.seq (.reg [mo 6 (ki 7)])
 .ret)
 .skip))
 (.seq (.keep [0, 2, 7])
 (.seq (.reg [oo 40 (.bslice 1 0 [(.string ⟨#[]⟩)] []),
 fa 41 1 (tm 7),
 l1 42 (tm 41),
 ap 43 1 16 (tm 40) (tm 42),
 mo 44 (tm 2),
 oo 45 (.bslice 1 1 [(.string ⟨#[]⟩)] [(0, 1, (tm 44))]),
 ap 46 1 16 (tm 43) (tm 45),
 fa 47 1 (tm 7),
 sr 1 (tm 47) (tm 46)])
 (.seq (.keep [0, 7])
 (.seq (.reg [mo 48 (tm 0),
 l2 49 5 (tm 7),
 ca 50 200 [(tm 48), (tm 49)]])
 (.seq (.reg [mo 6 (ki 0)])
 .ret)))))))))))))))))⟩

def lf143 : LFunc := ⟨2, [.tmp 4],
 (.seq (.reg [mo 4 (ki 0)])
 (.seq (.seq (.reg [mo 6 (tm 0),
 nc 7 (tm 6),
 fa 8 1 (tm 7),
 l1 9 (tm 8)])
 (.cond (tm 9) (.seq (.reg [mo 4 (ki 7)])
 .ret)
 .skip))
 (.seq (.keep [0, 1])
 (.seq (.reg [mo 10 (tm 0),
 mo 11 (tm 1),
 ca 12 192 [(tm 10), (tm 11)],
 mo 5 (tm 12)])
 (.seq (.seq (.reg [mo 13 (tm 5),
 b2 14 .lss 3 (tm 13) (ki 0) 3 4])
 (.cond (tm 14) (.seq (.reg [mo 4 (ki 4)])
 .ret)
 .skip))
 (.seq (.keep [0, 5])
 (.seq (.seq (.reg [mo 15 (tm 0),
 ca 16 199 [(tm 15)],
 u1 17 .not 4 (tm 16) 4])
 (.cond (tm 17) (.seq (.reg [mo 4 (ki 7)])
 .ret)
 .skip))
 (.seq (.keep [0, 5])
 (.seq (.dreg [mo 18 (tm 0),
 nc 19 (tm 18),
 fa 20 0 (tm 19),
 l1 21 (tm 20),
 mo 22 (tm 5),
 mo 23 (tm 0),
 nc 24 (tm 23),
 fa 25 0 (tm 24),
 l1 26 (tm 25),
 mo 27 (tm 5),
 is 28 5 (tm 26) (tm 27),
 fa 29 1 (tm 28),
 l1 30 (tm 29),
 le 31 false (tm 30),
 is 32 5 (tm 21) (tm 22),
 fa 33 2 (tm 32),
 sr 1 (tm 33) (tm 31)] [])
 (.seq (.keep [])
 (.seq (.reg [mo 4 (ki 0)])
 .ret)))))))))))⟩

def lf144 : LFunc := ⟨3, [.tmp 6],
 (.seq (.reg [mo 6 (ki 0)])
 (.seq (.seq (.reg [mo 9 (tm 0),
 nc 10 (tm 9),
 fa 11 1 (tm 10),
 l1 12 (tm 11)])
 (.cond (tm 12) (.seq (.reg [mo 6 (ki 7)])
 .ret)
 .skip))
 (.seq (.keep [0, 1, 2])
 (.seq (.seq (.reg [mo 13 (tm 2),
 ca 14 198 [(tm 13)],
 u1 15 .not 4 (tm 14) 4])
 (.cond (tm 15) (.seq (.reg [mo 6 (ki 1)])
 .ret)
 .skip))
 (.seq (.keep [0, 1, 2])
 (.seq (.reg [mo 16 (tm 0),
 mo 17 (tm 1),
 ca 18 192 [(tm 16), (tm 17)],
 mo 7 (tm 18)])
 (.seq (.seq (.reg [mo 19 (tm 7),
 b2 20 .lss 3 (tm 19) (ki 0) 3 4])
 (.cond (tm 20) (.seq (.reg [mo 6 (ki 4)])
 .ret)
 .skip))
 (.seq (.keep [0, 1, 2, 7])
 (.seq (.seq (.reg [mo 21 (tm 0),
 ca 22 199 [(tm 21)],
 u1 23 .not 4 (tm 22) 4])
 (.cond (tm 23) (.seq (.reg [mo 6 (ki 7)])
 .ret)
 .skip))
 (.seq (.keep [0, 1, 2, 7])
 (.seq (.reg [mo 24 (tm 0),
 nc 25 (tm 24),
 fa 26 0 (tm 25),
 l1 27 (tm 26),
 mo 28 (tm 7),
 is 29 5 (tm 27) (tm 28),
 l2 30 5 (tm 29),
 oo 8 (.alloc [(.string ⟨#[]⟩), (.slice none 0 0), (.int .i64 0), (.bool false), (.string ⟨#[]⟩)]),
 sr 5 (tm 8) (tm 30)])
 (.seq (.keep [0, 1, 2, 8])
 (.seq (.reg [mo 31 (tm 0),
 mo 32 (tm 1),
 ca 33 201 [(tm 31), (tm 32)]])
 (.seq (.reg [mo 34 (tm 2),
 fa 35 0 (tm 8),
 sr 1 (tm 35) (tm 34)])
 (.seq (.reg [mo 36 (tm 0),
 l2 37 5 (tm 8),
 ca 38 200 [(tm 36), (tm 37)]])
 (.seq (.reg [mo 6 (ki 0)])
 .ret))))))))))))))))⟩

def lf145 : LFunc := ⟨2, [.tmp 4],
 (.seq (.reg [mo 4 (ki 0)])
 (.seq (.seq (.reg [mo 5 (tm 0),
 nc 6 (tm 5),
 fa 7 1 (tm 6),
 l1 8 (tm 7)])
 (.cond (tm 8) (.seq (.reg [mo 4 (ki 7)])
 .ret)
 .skip))
 (.seq (.keep [0, 1])
 (.seq (.seq (.reg [mo 9 (tm 0),
 mo 10 (tm 1),
 ca 11 192 [(tm 9), (tm 10)],
 b2 12 .lss 3 (tm 11) (ki 0) 3 4])
 (.cond (tm 12) (.seq (.reg [mo 4 (ki 4)])
 .ret)
 .skip))
 (.seq (.keep [0, 1])
 (.seq (.seq (.reg [mo 13 (tm 0),
 ca 14 199 [(tm 13)],
 u1 15 .not 4 (tm 14) 4])
 (.cond (tm 15) (.seq (.reg [mo 4 (ki 7)])
 .ret)
 .skip))
 (.seq (.keep [0, 1])
 (.seq (.reg [mo 16 (tm 0),
 mo 17 (tm 1),
 ca 18 201 [(tm 16), (tm 17)]])
 (.seq (.reg [mo 4 (ki 0)])
 .ret)))))))))⟩

def lf146 : LFunc := ⟨2, [],
 (.seq (.reg [mo 4 (tm 0),
 mo 5 (tm 1),
 nc 6 (tm 4),
 fa 7 2 (tm 6),
 sr 1 (tm 7) (tm 5)])
 (.seq (.reg [mo 8 (tm 1),
 b2 9 .lss 3 (tm 8) (ki 1) 3 4])
 (.cond (tm 9) (.reg [mo 10 (tm 0),
 nc 11 (tm 10),
 fa 12 2 (tm 11),
 sr 1 (tm 12) (ki 0)])
 .skip)))⟩

def lp147x0 : LCode := .loop (.seq (.keep [0, 3, 4, 5, 6])
 (.seq (.seq (.reg [mo 11 (tm 6),
 mo 12 (tm 0),
 nc 13 (tm 12),
 fa 14 0 (tm 13),
 l1 15 (tm 14),
 le 16 false (tm 15),
 b2 17 .lss 3 (tm 11) (tm 16) 3 4])
 (.cond (tm 17) .skip
 (.exit 0)))
 (.seq (.keep [0, 3, 4, 5, 6])
 (.seq (.block 1 (.seq (.reg [mo 20 (tm 0),
 nc 21 (tm 20),
 fa 22 0 (tm 21),
 l1 23 (tm 22),
 mo 24 (tm 6),
 is 25 5 (tm 23) (tm 24),
 l2 26 5 (tm 25),
 oo 7 (.alloc [(.string ⟨#[]⟩), (.slice none 0 0), (.int .i64 0), (.bool false), (.string ⟨#[]⟩)]),
 sr 5 (tm 7) (tm 26)])
 (.seq (.keep [0, 3, 4, 5, 6, 7])
 (.seq (.seq (.reg [fa 27 2 (tm 7),
 l1 28 (tm 27),
 fa 29 1 (tm 7),
 l1 30 (tm 29),
 le 31 false (tm 30),
 b2 32 .lss 3 (tm 28) (tm 31) 3 4])
 (.cond (tm 32) (.seq (.reg [l2 33 5 (tm 7),
 l2 34 2 (tm 3),
 mo 35 (tm 5),
 ca 36 202 [(tm 33), (tm 34), (tm 35)],
 sr 5 (tm 7) (tm 36)])
 (.reg [mo 37 (tm 5),
 b2 38 .add 3 (tm 37) (ki 1) 3 3,
 mo 5 (tm 38)]))
 .skip))
 (.seq (.keep [0, 3, 4, 5, 6, 7])
 (.reg [mo 39 (tm 4),
 l2 40 5 (tm 7),
 oo 41 (.bslice 5 1 [(.string ⟨#[]⟩), (.slice none 0 0), (.int .i64 0), (.bool false), (.string ⟨#[]⟩)] [(0, 5, (tm 40))]),
 ap 42 5 72 (tm 39) (tm 41),
 mo 4 (tm 42)]))))))
 (.seq (.keep [0, 3, 4, 5, 6])
 (.reg [mo 18 (tm 6),
 b2 19 .add 3 (tm 18) (ki 1) 3 3,
 mo 6 (tm 19)]))))))

def lf147 : LFunc := ⟨2, [],
 (.seq (.reg [oo 3 (.box (tm 1))])
 (.seq (.reg [mo 8 (tm 0),
 nc 9 (tm 8),
 fa 10 1 (tm 9),
 sr 1 (tm 10) (kB true)])
 (.seq (.reg [mo 4 (.const (.slice none 0 0))])
 (.seq (.reg [mo 5 (ki 0)])
 (.seq (.seq (.reg [mo 6 (ki 0)])
 (.block 0 lp147x0))
 (.seq (.keep [0, 4])
 (.reg [mo 43 (tm 0),
 mo 44 (tm 4),
 nc 45 (tm 43),
 fa 46 0 (tm 45),
 sr 1 (tm 46) (tm 44)])))))))⟩

def lf148 : LFunc := ⟨1, [.tmp 2],
 (.seq (.reg [oo 1 (.box (tm 0)),
 mo 2 (kB false)])
 (.seq (.seq (.reg [fa 3 0 (tm 1),
 l1 4 (tm 3),
 b2 5 .lss 22 (tm 4) (ku 1) 22 4,
 mo 6 (tm 5),
 ⟨(some 7), (some (6, false)), .fadr 1 (tm 1)⟩,
 ⟨(some 8), (some (6, false)), .ld1 (tm 7)⟩,
 ⟨(some 9), (some (6, false)), .prim ⟨none, (.binOp .lss 22 (tm 8) (ku 1) 22), 4, "", #[], none⟩⟩,
 oo 10 (.pick (tm 6) (kB true) (tm 9))])
 (.seq (.keep [1, 10])
 (.cond (tm 10) (.seq (.reg [mo 2 (kB false)])
 .ret)
 .skip)))
 (.seq (.keep [1])
 (.seq (.seq (.reg [fa 11 2 (tm 1),
 l1 12 (tm 11),
 b2 13 .eql 5 (tm 12) (kb 3) 5 4])
 (.cond (tm 13) (.seq (.reg [fa 14 3 (tm 1),
 l1 15 (tm 14),
 b2 16 .lss 5 (tm 15) (kb 4) 5 4,
 mo 2 (tm 16)])
 .ret)
 .skip))
 (.seq (.keep [1])
 (.seq (.seq (.reg [fa 17 3 (tm 1),
 l1 18 (tm 17),
 b2 19 .neq 5 (tm 18) (kb 0) 5 4,
 mo 20 (tm 19),
 ⟨(some 21), (some (20, false)), .fadr 4 (tm 1)⟩,
 ⟨(some 22), (some (20, false)), .ldn 8 (tm 21)⟩,
 ⟨(some 23), (some (20, false)), .build [(.int .u8 0), (.int .u8 0), (.int .u8 0), (.int .u8 0), (.int .u8 0), (.int .u8 0), (.int .u8 0), (.int .u8 0)] []⟩,
 ⟨(some 24), (some (20, false)), .prim ⟨none, (.binOp .neq 52 (tm 22) (tm 23) 52), 4, "", #[], none⟩⟩,
 oo 25 (.pick (tm 20) (kB true) (tm 24))])
 (.seq (.keep [1, 25])
 (.cond (tm 25) (.seq (.reg [mo 2 (kB false)])
 .ret)
 .skip)))
 (.seq (.keep [1])
 (.seq (.seq (.reg [fa 26 2 (tm 1),
 l1 27 (tm 26)])
 (.block 0 (.seq (.seq (.reg [b2 29 .eql 5 (tm 27) (kb 1) 5 4,
 mo 28 (tm 29)])
 (.cond (tm 28) .skip
 (.reg [b2 30 .eql 5 (tm 27) (kb 5) 5 4,
 mo 28 (tm 30)])))
 (.seq (.keep [1, 27, 28])
 (.cond (tm 28) (.seq (.reg [fa 31 12 (tm 1),
 l1 32 (tm 31),
 b2 33 .eql 9 (tm 32) (.const (.string ⟨#[]⟩)) 9 4,
 mo 2 (tm 33)])
 .ret)
 (.seq (.reg [b2 35 .eql 5 (tm 27) (kb 2) 5 4,
 mo 34 (tm 35)])
 (.cond (tm 34) (.seq (.reg [fa 36 12 (tm 1),
 l1 37 (tm 36),
 ln 38 (tm 37) 9 3,
 b2 39 .eql 3 (tm 38) (ki 1) 3 4,
 mo 40 (tm 39),
 ⟨(some 41), (some (40, true)), .fadr 12 (tm 1)⟩,
 ⟨(some 42), (some (40, true)), .ld1 (tm 41)⟩,
 ⟨(some 43), (some (40, true)), .prim ⟨none, (.index 9 (tm 42) (ki 0)), 5, "", #[], none⟩⟩,
 ⟨(some 44), (some (40, true)), .prim ⟨none, (.binOp .geq 5 (tm 43) (kb 1) 5), 4, "", #[], none⟩⟩,
 oo 45 (.pick (tm 40) (tm 44) (kB false)),
 mo 46 (tm 45),
 ⟨(some 47), (some (46, true)), .fadr 12 (tm 1)⟩,
 ⟨(some 48), (some (46, true)), .ld1 (tm 47)⟩,
 ⟨(some 49), (some (46, true)), .prim ⟨none, (.index 9 (tm 48) (ki 0)), 5, "", #[], none⟩⟩,
 ⟨(some 50), (some (46, true)), .prim ⟨none, (.binOp .leq 5 (tm 49) (kb 31) 5), 4, "", #[], none⟩⟩,
 oo 51 (.pick (tm 46) (tm 50) (kB false)),
 mo 2 (tm 51)])
 (.seq (.keep [2])
 .ret))
 .skip)))))))
 (.seq (.keep [1])
 (.seq (.reg [fa 52 2 (tm 1),
 l1 53 (tm 52),
 b2 54 .eql 5 (tm 53) (kb 4) 5 4,
 mo 2 (tm 54)])
 .ret))))))))))⟩

def lf149 : LFunc := ⟨2, [.tmp 4],
 (.seq (.reg [oo 2 (.box (tm 0)),
 mo 4 (ku 0)])
 (.seq (.seq (.reg [mo 5 (tm 1),
 fa 6 2 (tm 2),
 fa 7 0 (tm 6),
 l1 8 (tm 7),
 b2 9 .add 22 (tm 8) (ku 1) 22 22,
 b2 10 .eql 22 (tm 5) (tm 9) 22 4])
 (.cond (tm 10) (.seq (.reg [fa 11 2 (tm 2),
 fa 12 1 (tm 11),
 l1 13 (tm 12),
 mo 4 (tm 13)])
 .ret)
 .skip))
 (.seq (.keep [1, 2])
 (.seq (.reg [fa 14 10 (tm 2),
 l1 15 (tm 14),
 mo 16 (tm 1),
 fa 17 2 (tm 2),
 fa 18 0 (tm 17),
 l1 19 (tm 18),
 b2 20 .sub 22 (tm 16) (tm 19) 22 22,
 b2 21 .sub 22 (tm 20) (ku 2) 22 22,
 is 22 13 (tm 15) (tm 21),
 fa 23 1 (tm 22),
 l1 24 (tm 23),
 mo 4 (tm 24)])
 (.seq (.keep [4])
 .ret)))))⟩

def lf150 : LFunc := ⟨1, [.tmp 2],
 (.seq (.reg [mo 2 (.const (.slice none 0 0))])
 (.seq (.reg [mo 3 (tm 0),
 mo 4 (tm 0),
 le 5 false (tm 4),
 mo 6 (tm 0),
 le 7 false (tm 6),
 oo 8 (.slcl 13 (tm 3) none (some (tm 5)) (some (tm 7))),
 mo 2 (tm 8)])
 .ret))⟩

def lp151x0 : LCode := .loop (.seq (.keep [1, 4, 6, 8, 39])
 (.seq (.reg [b2 40 .lss 3 (tm 39) (ki 6) 3 4])
 (.seq (.cond (tm 40) .skip
 (.exit 0))
 (.seq (.keep [1, 4, 6, 8, 39])
 (.seq (.block 1 (.seq (.reg [mo 42 (tm 6),
 ca 43 119 [(tm 42)],
 mo 41 (tm 43),
 ex 44 (tm 41) 0,
 ex 45 (tm 41) 1,
 ex 46 (tm 41) 2,
 mo 9 (tm 44),
 mo 10 (tm 45),
 mo 11 (tm 46)])
 (.seq (.keep [1, 4, 6, 8, 9, 10, 11, 39])
 (.seq (.seq (.reg [mo 47 (tm 11),
 u1 48 .not 4 (tm 47) 4,
 mo 49 (tm 48),
 ⟨(some 50), (some (49, false)), .mv (tm 6)⟩,
 ⟨(some 51), (some (49, false)), .prim ⟨none, (.call ⟨.builtin .len, #[(tm 50)], #[9]⟩), 3, "", #[], none⟩⟩,
 ⟨(some 52), (some (49, false)), .mv (tm 10)⟩,
 ⟨(some 53), (some (49, false)), .prim ⟨none, (.binOp .sub 3 (tm 51) (tm 52) 3), 3, "", #[], none⟩⟩,
 ⟨(some 54), (some (49, false)), .prim ⟨none, (.binOp .lss 3 (tm 53) (ki 4) 3), 4, "", #[], none⟩⟩,
 oo 55 (.pick (tm 49) (kB true) (tm 54)),
 mo 56 (tm 55),
 ⟨(some 57), (some (56, false)), .mv (tm 9)⟩,
 ⟨(some 58), (some (56, false)), .mv (tm 6)⟩,
 ⟨(some 59), (some (56, false)), .prim ⟨none, (.call ⟨.builtin .len, #[(tm 58)], #[9]⟩), 3, "", #[], none⟩⟩,
 ⟨(some 60), (some (56, false)), .mv (tm 10)⟩,
 ⟨(some 61), (some (56, false)), .prim ⟨none, (.binOp .sub 3 (tm 59) (tm 60) 3), 3, "", #[], none⟩⟩,
 ⟨(some 62), (some (56, false)), .prim ⟨none, (.binOp .sub 3 (tm 61) (ki 4) 3), 3, "", #[], none⟩⟩,
 ⟨(some 63), (some (56, false)), .prim ⟨none, (.convert 3 22 (tm 62)), 22, "", #[], none⟩⟩,
 ⟨(some 64), (some (56, false)), .prim ⟨none, (.binOp .gtr 22 (tm 57) (tm 63) 22), 4, "", #[], none⟩⟩,
 oo 65 (.pick (tm 56) (kB true) (tm 64))])
 (.seq (.keep [1, 4, 6, 8, 9, 10, 39, 65])
 (.cond (tm 65) (.seq (.reg [oo 66 (.build [(.int .u64 0), (.int .u64 0), (.int .u8 0), (.string ⟨#[]⟩), (.string ⟨#[]⟩), (.string ⟨#[]⟩), (.string ⟨#[]⟩), (.string ⟨#[]⟩)] []),
 sr 8 (tm 4) (tm 66),
 mo 5 (kB false)])
 .ret)
 .skip)))
 (.seq (.keep [1, 4, 6, 8, 9, 10, 39])
 (.seq (.reg [mo 67 (tm 10),
 b2 68 .add 3 (tm 67) (ki 4) 3 3,
 mo 12 (tm 68)])
 (.dreg [mo 69 (tm 8),
 mo 70 (tm 6),
 mo 71 (tm 12),
 mo 72 (tm 12),
 mo 73 (tm 9),
 cv 74 22 3 (tm 73) 3,
 b2 75 .add 3 (tm 72) (tm 74) 3 3,
 oo 76 (.slcs (tm 70) (some (tm 71)) (some (tm 75))),
 oo 77 (.bslice 1 1 [(.string ⟨#[]⟩)] [(0, 1, (tm 76))]),
 ap 78 1 16 (tm 69) (tm 77),
 mo 79 (tm 6),
 mo 80 (tm 12),
 mo 81 (tm 9),
 cv 82 22 3 (tm 81) 3,
 b2 83 .add 3 (tm 80) (tm 82) 3 3,
 oo 84 (.slcs (tm 79) (some (tm 83)) none),
 mo 8 (tm 78),
 mo 6 (tm 84)] [])))))))
 (.seq (.keep [1, 4, 6, 8, 39])
 (.reg [b2 85 .add 3 (tm 39) (ki 1) 3 3,
 mo 39 (tm 85)])))))))

def lf151 : LFunc := ⟨2, [.ldn 4 8, .tmp 5],
 (.seq (.reg [oo 4 (.alloc [(.int .u64 0), (.int .u64 0), (.int .u8 0), (.string ⟨#[]⟩), (.string ⟨#[]⟩), (.string ⟨#[]⟩), (.string ⟨#[]⟩), (.string ⟨#[]⟩)]),
 mo 5 (kB false)])
 (.seq (.seq (.reg [mo 23 (tm 1),
 b2 24 .eql 22 (tm 23) (ku 0) 22 4])
 (.cond (tm 24) (.seq (.reg [oo 25 (.build [(.int .u64 0), (.int .u64 0), (.int .u8 0), (.string ⟨#[]⟩), (.string ⟨#[]⟩), (.string ⟨#[]⟩), (.string ⟨#[]⟩), (.string ⟨#[]⟩)] []),
 sr 8 (tm 4) (tm 25),
 mo 5 (kB true)])
 .ret)
 .skip))
 (.seq (.keep [0, 1, 4])
 (.seq (.dreg [mo 27 (tm 0),
 nc 28 (tm 27),
 fa 29 0 (tm 28),
 l1 30 (tm 29),
 mo 31 (tm 1),
 ca 32 109 [(tm 31)],
 ca 33 36 [(tm 30), (tm 32)],
 mo 26 (tm 33),
 ex 34 (tm 26) 0,
 ex 35 (tm 26) 1,
 mo 6 (tm 34),
 mo 7 (tm 35)] [(3, 0, 1)])
 (.seq (.keep [1, 4, 6, 7])
 (.seq (.seq (.reg [mo 36 (tm 7),
 b2 37 .neq 39 (tm 36) (ki 0) 39 4])
 (.cond (tm 37) (.seq (.reg [oo 38 (.build [(.int .u64 0), (.int .u64 0), (.int .u8 0), (.string ⟨#[]⟩), (.string ⟨#[]⟩), (.string ⟨#[]⟩), (.string ⟨#[]⟩), (.string ⟨#[]⟩)] []),
 sr 8 (tm 4) (tm 38),
 mo 5 (kB false)])
 .ret)
 .skip))
 (.seq (.keep [1, 4, 6])
 (.seq (.reg [mo 8 (.const (.slice none 0 0))])
 (.seq (.seq (.reg [mo 39 (ki 0)])
 (.block 0 lp151x0))
 (.seq (.keep [1, 4, 8])
 (.seq (.reg [oo 13 (.alloc [(.int .u64 0), (.int .u64 0), (.int .u8 0), (.string ⟨#[]⟩), (.string ⟨#[]⟩), (.string ⟨#[]⟩), (.string ⟨#[]⟩), (.string ⟨#[]⟩)])])
 (.seq (.reg [mo 87 (tm 8),
 is 88 1 (tm 87) (ki 0),
 l1 89 (tm 88),
 ca 90 119 [(tm 89)],
 mo 86 (tm 90),
 ex 91 (tm 86) 0,
 ex 92 (tm 86) 1,
 ex 93 (tm 86) 2,
 mo 14 (tm 91),
 mo 15 (tm 92),
 mo 16 (tm 93)])
 (.seq (.keep [1, 4, 8, 13, 14, 15])
 (.seq (.reg [mo 95 (tm 8),
 is 96 1 (tm 95) (ki 0),
 l1 97 (tm 96),
 mo 98 (tm 15),
 oo 99 (.slcs (tm 97) (some (tm 98)) none),
 ca 100 119 [(tm 99)],
 mo 94 (tm 100),
 ex 101 (tm 94) 0,
 ex 102 (tm 94) 1,
 ex 103 (tm 94) 2,
 mo 17 (tm 101),
 mo 18 (tm 102),
 mo 19 (tm 103)])
 (.seq (.keep [1, 4, 8, 13, 14, 15, 17, 18])
 (.seq (.reg [mo 105 (tm 8),
 is 106 1 (tm 105) (ki 0),
 l1 107 (tm 106),
 mo 108 (tm 15),
 mo 109 (tm 18),
 b2 110 .add 3 (tm 108) (tm 109) 3 3,
 oo 111 (.slcs (tm 107) (some (tm 110)) none),
 ca 112 119 [(tm 111)],
 mo 104 (tm 112),
 ex 113 (tm 104) 0,
 ex 114 (tm 104) 1,
 ex 115 (tm 104) 2,
 mo 20 (tm 113),
 mo 21 (tm 114),
 mo 22 (tm 115)])
 (.seq (.keep [1, 4, 8, 13, 14, 17, 20])
 (.seq (.reg [mo 116 (tm 14),
 mo 117 (tm 17),
 mo 118 (tm 20),
 cv 119 22 5 (tm 118) 5,
 fa 120 0 (tm 13),
 sr 1 (tm 120) (tm 116),
 fa 121 1 (tm 13),
 sr 1 (tm 121) (tm 117),
 fa 122 2 (tm 13),
 sr 1 (tm 122) (tm 119)])
 (.seq (.keep [1, 4, 8, 13, 14, 20])
 (.seq (.dreg [fa 123 3 (tm 13),
 oo 124 (.slca 5 1 (tm 123) none none none),
 mo 125 (tm 8),
 oo 126 (.slcl 1 (tm 125) (some (ki 1)) none none),
 oo 127 (.copy 1 (tm 124) (tm 126))] [])
 (.seq (.reg [l2 128 8 (tm 13),
 mo 129 (tm 14),
 mo 130 (tm 1),
 b2 131 .eql 22 (tm 129) (tm 130) 22 4,
 mo 132 (tm 131),
 ⟨(some 133), (some (132, true)), .mv (tm 20)⟩,
 ⟨(some 134), (some (132, true)), .prim ⟨none, (.binOp .lss 22 (tm 133) (ku 256) 22), 4, "", #[], none⟩⟩,
 oo 135 (.pick (tm 132) (tm 134) (kB false)),
 sr 8 (tm 4) (tm 128),
 mo 5 (tm 135)])
 (.seq (.keep [4, 5])
 .ret))))))))))))))))))))))⟩

def lp152x0 : LCode := .loop (.seq (.keep [3, 13, 14, 15])
 (.seq (.reg [b2 16 .lss 3 (tm 15) (tm 14) 3 0])
 (.seq (.cond (tm 16) .skip
 (.exit 0))
 (.seq (.keep [3, 13, 14, 15])
 (.seq (.block 1 (.seq (.reg [is 17 13 (tm 13) (tm 15),
 l2 18 13 (tm 17),
 oo 5 (.alloc [(.int .u64 0), (.int .u64 0), (.int .u8 0), (.int .u8 0), (.int .u8 0), (.int .u8 0), (.int .u8 0), (.int .u8 0), (.int .u8 0), (.int .u8 0), (.int .u8 0), (.int .u8 0), (.string ⟨#[]⟩)]),
 sr 13 (tm 5) (tm 18)])
 (.reg [mo 19 (tm 3),
 l2 20 13 (tm 5),
 oo 21 (.build [(.int .u8 0), (.int .u64 0), (.int .u8 0), (.int .u64 0), (.int .u64 0), (.int .u8 0), (.int .u8 0), (.int .u8 0), (.int .u8 0), (.int .u8 0), (.int .u8 0), (.int .u8 0), (.int .u8 0), (.int .u8 0), (.int .u8 0), (.string ⟨#[]⟩)] [(0, 1, (kb 3)), (3, 13, (tm 20))]),
 oo 22 (.bslice 16 1 [(.int .u8 0), (.int .u64 0), (.int .u8 0), (.int .u64 0), (.int .u64 0), (.int .u8 0), (.int .u8 0), (.int .u8 0), (.int .u8 0), (.int .u8 0), (.int .u8 0), (.int .u8 0), (.int .u8 0), (.int .u8 0), (.int .u8 0), (.string ⟨#[]⟩)] [(0, 16, (tm 21))]),
 ap 23 16 72 (tm 19) (tm 22),
 mo 3 (tm 23)])))
 (.seq (.keep [3, 13, 14, 15])
 (.reg [b2 24 .add 3 (tm 15) (ki 1) 3 3,
 mo 15 (tm 24)])))))))

def lf152 : LFunc := ⟨1, [.tmp 2],
 (.seq (.reg [oo 1 (.box (tm 0)),
 mo 2 (.const (.slice none 0 0))])
 (.seq (.reg [fa 6 0 (tm 1),
 l1 7 (tm 6),
 fa 8 1 (tm 1),
 l1 9 (tm 8),
 oo 10 (.build [(.int .u8 0), (.int .u64 0), (.int .u8 0), (.int .u64 0), (.int .u64 0), (.int .u8 0), (.int .u8 0), (.int .u8 0), (.int .u8 0), (.int .u8 0), (.int .u8 0), (.int .u8 0), (.int .u8 0), (.int .u8 0), (.int .u8 0), (.string ⟨#[]⟩)] [(0, 1, (kb 2)), (1, 1, (tm 7)), (2, 1, (tm 9))]),
 oo 11 (.bslice 16 1 [(.int .u8 0), (.int .u64 0), (.int .u8 0), (.int .u64 0), (.int .u64 0), (.int .u8 0), (.int .u8 0), (.int .u8 0), (.int .u8 0), (.int .u8 0), (.int .u8 0), (.int .u8 0), (.int .u8 0), (.int .u8 0), (.int .u8 0), (.string ⟨#[]⟩)] [(0, 16, (tm 10))]),
 mo 3 (tm 11)])
 (.seq (.seq (.reg [fa 12 10 (tm 1),
 l1 13 (tm 12),
 le 14 false (tm 13),
 mo 15 (ki 0)])
 (.block 0 lp152x0))
 (.seq (.keep [3])
 (.seq (.reg [mo 25 (tm 3),
 mo 2 (tm 25)])
 .ret)))))⟩

def lf153 : LFunc := ⟨3, [.tmp 6],
 (.seq (.reg [mo 6 (ki 0)])
 (.seq (.seq (.reg [mo 11 (tm 0),
 ca 12 83 [(tm 11)],
 mo 7 (tm 12)])
 (.seq (.reg [mo 13 (tm 7),
 b2 14 .neq 39 (tm 13) (ki 0) 39 4])
 (.cond (tm 14) (.seq (.reg [mo 15 (tm 7),
 mo 6 (tm 15)])
 .ret)
 .skip)))
 (.seq (.keep [0, 1, 2])
 (.seq (.reg [mo 17 (tm 0),
 nc 18 (tm 17),
 fa 19 0 (tm 18),
 l1 20 (tm 19),
 mo 21 (tm 1),
 oo 22 (.look 9 (.agg #[(.slice none 0 0), (.int .i64 0), (.bool false), (.string ⟨#[]⟩)]) (tm 20) (tm 21) true),
 mo 16 (tm 22),
 ex 23 (tm 16) 0,
 ex 24 (tm 16) 1,
 oo 8 (.alloc [(.slice none 0 0), (.int .i64 0), (.bool false), (.string ⟨#[]⟩)]),
 sr 4 (tm 8) (tm 23),
 mo 9 (tm 24)])
 (.seq (.keep [0, 2, 8, 9])
 (.seq (.seq (.reg [mo 25 (tm 9),
 u1 26 .not 4 (tm 25) 4])
 (.cond (tm 26) (.seq (.reg [mo 6 (ki 4)])
 .ret)
 .skip))
 (.seq (.keep [0, 2, 8])
 (.seq (.seq (.reg [mo 27 (tm 0),
 ca 28 103 [(tm 27)],
 mo 10 (tm 28)])
 (.seq (.reg [mo 29 (tm 10),
 b2 30 .neq 39 (tm 29) (ki 0) 39 4])
 (.cond (tm 30) (.seq (.reg [mo 31 (tm 10),
 mo 6 (tm 31)])
 .ret)
 .skip)))
 (.seq (.keep [2, 8])
 (.seq (.reg [mo 32 (tm 2),
 l2 33 4 (tm 8),
 oo 34 (.callv (tm 32) [(tm 33)])])
 (.seq (.reg [mo 6 (ki 0)])
 .ret)))))))))))⟩

def lf154 : LFunc := ⟨3, [],
 (.seq (.reg [oo 3 (.box (tm 0))])
 (.dreg [l1 4 (tm 1),
 nc 5 (tm 4),
 fa 6 0 (tm 5),
 l1 7 (tm 6),
 l1 8 (tm 2),
 ⟨none, none, .mdel 9 (tm 7) (tm 8)⟩] []))⟩

def lp155x0 : LCode := .loop (.seq (.keep [0, 5, 6])
 (.seq (.seq (.reg [mo 17 (tm 6),
 b2 18 .geq 3 (tm 17) (ki 0) 3 4])
 (.cond (tm 18) .skip
 (.exit 0)))
 (.seq (.keep [0, 5, 6])
 (.seq (.block 1 (.seq (.reg [mo 21 (tm 5),
 mo 22 (tm 6),
 mo 23 (tm 0),
 cv 24 22 5 (tm 23) 5,
 is 25 1 (tm 21) (tm 22),
 sr 1 (tm 25) (tm 24)])
 (.reg [mo 26 (tm 0),
 b2 27 .shr 22 (tm 26) (ku 8) 135 22,
 mo 0 (tm 27)])))
 (.seq (.keep [0, 5, 6])
 (.reg [mo 19 (tm 6),
 b2 20 .sub 3 (tm 19) (ki 1) 3 3,
 mo 6 (tm 20)]))))))

def lf155 : LFunc := ⟨2, [.tmp 4],
 (.seq (.reg [mo 4 (.const (.string ⟨#[]⟩))])
 (.seq (.seq (.reg [mo 7 (tm 1),
 b2 8 .lss 3 (tm 7) (ki 1) 3 4,
 mo 9 (tm 8),
 ⟨(some 10), (some (9, false)), .mv (tm 1)⟩,
 ⟨(some 11), (some (9, false)), .prim ⟨none, (.binOp .gtr 3 (tm 10) (ki 8) 3), 4, "", #[], none⟩⟩,
 oo 12 (.pick (tm 9) (kB true) (tm 11))])
 (.cond (tm 12) (.seq (.reg [mo 4 (.const (.string ⟨#[]⟩))])
 .ret)
 .skip))
 (.seq (.keep [0, 1])
 (.seq (.reg [mo 13 (tm 1),
 oo 14 (.mkslice 1 1 [(.int .u8 0)] (tm 13) (tm 13)),
 mo 5 (tm 14)])
 (.seq (.seq (.reg [mo 15 (tm 1),
 b2 16 .sub 3 (tm 15) (ki 1) 3 3,
 mo 6 (tm 16)])
 (.block 0 lp155x0))
 (.seq (.keep [5])
 (.seq (.reg [mo 28 (tm 5),
 oo 29 (.cvbs (tm 28)),
 mo 4 (tm 29)])
 .ret)))))))⟩

def lf156 : LFunc := ⟨3, [],
 (.seq (.reg [oo 3 (.box (tm 0))])
 (.seq (.reg [fa 4 0 (tm 3),
 l1 5 (tm 4),
 le 6 false (tm 5),
 fa 7 1 (tm 3),
 sr 1 (tm 7) (tm 6)])
 (.dreg [l1 8 (tm 1),
 nc 9 (tm 8),
 fa 10 0 (tm 9),
 l1 11 (tm 10),
 l1 12 (tm 2),
 l2 13 4 (tm 3),
 ⟨none, none, .mput 9 (tm 11) (tm 12) (tm 13)⟩] [])))⟩

def lp160x0 : LCode := .loop (.seq (.keep [1, 3])
 (.seq (.seq (.reg [mo 4 (tm 3),
 b2 5 .lss 3 (tm 4) (ki 8) 3 4])
 (.cond (tm 5) .skip
 (.exit 0)))
 (.seq (.keep [1, 3])
 (.seq (.block 1 (.seq (.reg [mo 8 (tm 3),
 fa 9 4 (tm 1),
 oo 10 (.iadra 8 1 (tm 9) (tm 8)),
 l1 11 (tm 10),
 b2 12 .neq 5 (tm 11) (kb 0) 5 4])
 (.cond (tm 12) (.seq (.reg [mo 2 (kB false)])
 .ret)
 .skip)))
 (.seq (.keep [1, 3])
 (.reg [mo 6 (tm 3),
 b2 7 .add 3 (tm 6) (ki 1) 3 3,
 mo 3 (tm 7)]))))))

def lf160 : LFunc := ⟨1, [.tmp 2],
 (.seq (.reg [oo 1 (.box (tm 0)),
 mo 2 (kB false)])
 (.seq (.seq (.reg [mo 3 (ki 0)])
 (.block 0 lp160x0))
 (.seq (.keep [1])
 (.seq (.reg [fa 13 3 (tm 1),
 l1 14 (tm 13),
 b2 15 .eql 5 (tm 14) (kb 0) 5 4,
 mo 2 (tm 15)])
 .ret))))⟩

def lf161 : LFunc := ⟨1, [.tmp 2],
 (.seq (.reg [oo 1 (.box (tm 0)),
 mo 2 (.const (.string ⟨#[]⟩))])
 (.seq (.seq (.reg [l2 4 13 (tm 1),
 ca 5 148 [(tm 4)],
 u1 6 .not 4 (tm 5) 4])
 (.cond (tm 6) (.seq (.reg [mo 2 (.const (.string ⟨#[]⟩))])
 .ret)
 .skip))
 (.seq (.keep [1])
 (.seq (.dreg [fa 7 2 (tm 1),
 l1 8 (tm 7),
 oo 9 (.bslice 1 1 [(.int .u8 0)] [(0, 1, (tm 8))]),
 oo 10 (.cvbs (tm 9)),
 fa 11 0 (tm 1),
 l1 12 (tm 11),
 fa 13 1 (tm 1),
 l1 14 (tm 13),
 oo 15 (.bslice 1 2 [(.int .u64 0)] [(0, 1, (tm 12)), (1, 1, (tm 14))]),
 ca 16 118 [(tm 15)],
 b2 17 .add 9 (tm 10) (tm 16) 9 9,
 mo 3 (tm 17)] [(1, 0, 1), (3, 0, 1)])
 (.seq (.keep [1, 3])
 (.seq (.seq (.reg [fa 18 2 (tm 1),
 l1 19 (tm 18),
 b2 20 .eql 5 (tm 19) (kb 3) 5 4])
 (.cond (tm 20) (.dreg [mo 21 (tm 3),
 fa 22 3 (tm 1),
 l1 23 (tm 22),
 oo 24 (.bslice 1 1 [(.int .u8 0)] [(0, 1, (tm 23))]),
 oo 25 (.cvbs (tm 24)),
 fa 26 4 (tm 1),
 oo 27 (.slca 8 1 (tm 26) none none none),
 oo 28 (.cvbs (tm 27)),
 b2 29 .add 9 (tm 25) (tm 28) 9 9,
 b2 30 .add 9 (tm 21) (tm 29) 9 9,
 mo 3 (tm 30)] [])
 .skip))
 (.seq (.keep [1, 3])
 (.seq (.seq (.reg [fa 31 2 (tm 1),
 l1 32 (tm 31),
 b2 33 .eql 5 (tm 32) (kb 1) 5 4,
 mo 34 (tm 33),
 ⟨(some 35), (some (34, false)), .fadr 2 (tm 1)⟩,
 ⟨(some 36), (some (34, false)), .ld1 (tm 35)⟩,
 ⟨(some 37), (some (34, false)), .prim ⟨none, (.binOp .eql 5 (tm 36) (kb 5) 5), 4, "", #[], none⟩⟩,
 oo 38 (.pick (tm 34) (kB true) (tm 37))])
 (.seq (.keep [1, 3, 38])
 (.cond (tm 38) (.seq (.reg [mo 39 (tm 3),
 mo 2 (tm 39)])
 .ret)
 .skip)))
 (.seq (.keep [1, 3])
 (.seq (.reg [mo 40 (tm 3),
 fa 41 12 (tm 1),
 l1 42 (tm 41),
 oo 43 (.bslice 1 1 [(.string ⟨#[]⟩)] [(0, 1, (tm 42))]),
 ca 44 205 [(tm 43)],
 b2 45 .add 9 (tm 40) (tm 44) 9 9,
 mo 2 (tm 45)])
 .ret))))))))))⟩

def lf162 : LFunc := ⟨1, [.tmp 2, .tmp 3, .tmp 4],
 (.seq (.reg [mo 2 (.const (.string ⟨#[]⟩)),
 mo 3 (ki 0),
 mo 4 (kB false)])
 (.seq (.reg [mo 8 (tm 0),
 ca 9 119 [(tm 8)],
 mo 7 (tm 9),
 ex 10 (tm 7) 0,
 ex 11 (tm 7) 1,
 ex 12 (tm 7) 2,
 mo 5 (tm 10),
 mo 6 (tm 11),
 mo 4 (tm 12)])
 (.seq (.keep [0, 4, 5, 6])
 (.seq (.seq (.reg [mo 13 (tm 4),
 u1 14 .not 4 (tm 13) 4,
 mo 15 (tm 14),
 ⟨(some 16), (some (15, false)), .mv (tm 5)⟩,
 ⟨(some 17), (some (15, false)), .mv (tm 0)⟩,
 ⟨(some 18), (some (15, false)), .prim ⟨none, (.call ⟨.builtin .len, #[(tm 17)], #[9]⟩), 3, "", #[], none⟩⟩,
 ⟨(some 19), (some (15, false)), .mv (tm 6)⟩,
 ⟨(some 20), (some (15, false)), .prim ⟨none, (.binOp .sub 3 (tm 18) (tm 19) 3), 3, "", #[], none⟩⟩,
 ⟨(some 21), (some (15, false)), .prim ⟨none, (.convert 3 22 (tm 20)), 22, "", #[], none⟩⟩,
 ⟨(some 22), (some (15, false)), .prim ⟨none, (.binOp .gtr 22 (tm 16) (tm 21) 22), 4, "", #[], none⟩⟩,
 oo 23 (.pick (tm 15) (kB true) (tm 22))])
 (.seq (.keep [0, 5, 6, 23])
 (.cond (tm 23) (.seq (.reg [mo 2 (.const (.string ⟨#[]⟩)),
 mo 3 (ki 0),
 mo 4 (kB false)])
 .ret)
 .skip)))
 (.seq (.keep [0, 5, 6])
 (.seq (.reg [mo 24 (tm 0),
 mo 25 (tm 6),
 mo 26 (tm 6),
 mo 27 (tm 5),
 cv 28 22 3 (tm 27) 3,
 b2 29 .add 3 (tm 26) (tm 28) 3 3,
 oo 30 (.slcs (tm 24) (some (tm 25)) (some (tm 29))),
 mo 31 (tm 6),
 mo 32 (tm 5),
 cv 33 22 3 (tm 32) 3,
 b2 34 .add 3 (tm 31) (tm 33) 3 3,
 mo 2 (tm 30),
 mo 3 (tm 34),
 mo 4 (kB true)])
 (.seq (.keep [2, 3, 4])
 .ret)))))))⟩

def lf169 : LFunc := ⟨2, [.tmp 4],
 (.seq (.reg [mo 4 (kB false)])
 (.seq (.reg [mo 5 (tm 0),
 ln 6 (tm 5) 9 3,
 mo 7 (tm 1),
 ln 8 (tm 7) 9 3,
 b2 9 .geq 3 (tm 6) (tm 8) 3 4,
 mo 10 (tm 9),
 ⟨(some 11), (some (10, true)), .mv (tm 0)⟩,
 ⟨(some 12), (some (10, true)), .mv (tm 1)⟩,
 ⟨(some 13), (some (10, true)), .prim ⟨none, (.call ⟨.builtin .len, #[(tm 12)], #[9]⟩), 3, "", #[], none⟩⟩,
 ⟨(some 14), (some (10, true)), .slcs (tm 11) none (some (tm 13))⟩,
 ⟨(some 15), (some (10, true)), .mv (tm 1)⟩,
 ⟨(some 16), (some (10, true)), .prim ⟨none, (.binOp .eql 9 (tm 14) (tm 15) 9), 4, "", #[], none⟩⟩,
 oo 17 (.pick (tm 10) (tm 16) (kB false)),
 mo 4 (tm 17)])
 (.seq (.keep [4])
 .ret)))⟩

def lp178x0 : LCode := .loop (.seq (.keep [0, 1, 2, 6, 7])
 (.seq (.seq (.dreg [mo 16 (tm 7),
 mo 17 (tm 1),
 b2 18 .gtr 3 (tm 16) (tm 17) 3 4,
 mo 19 (tm 18),
 ⟨(some 20), (some (19, true)), .mv (tm 0)⟩,
 ⟨(some 21), (some (19, true)), .mv (tm 7)⟩,
 ⟨(some 22), (some (19, true)), .iadrs 1 (tm 20) (tm 21)⟩,
 ⟨(some 23), (some (19, true)), .ld1 (tm 22)⟩,
 ⟨(some 24), (some (19, true)), .mv (tm 0)⟩,
 ⟨(some 25), (some (19, true)), .mv (tm 7)⟩,
 ⟨(some 26), (some (19, true)), .prim ⟨none, (.binOp .sub 3 (tm 25) (ki 1) 3), 3, "", #[], none⟩⟩,
 ⟨(some 27), (some (19, true)), .iadrs 1 (tm 24) (tm 26)⟩,
 ⟨(some 28), (some (19, true)), .ld1 (tm 27)⟩,
 ⟨(some 29), (some (19, true)), .call 184 [(tm 23), (tm 28)]⟩,
 oo 30 (.pick (tm 19) (tm 29) (kB false))] [])
 (.seq (.keep [0, 1, 2, 6, 7, 30])
 (.cond (tm 30) .skip
 (.exit 2))))
 (.seq (.keep [0, 1, 2, 6, 7])
 (.seq (.block 3 (.dreg [mo 33 (tm 0),
 mo 34 (tm 7),
 mo 35 (tm 0),
 mo 36 (tm 7),
 b2 37 .sub 3 (tm 36) (ki 1) 3 3,
 mo 38 (tm 0),
 mo 39 (tm 7),
 b2 40 .sub 3 (tm 39) (ki 1) 3 3,
 is 41 1 (tm 38) (tm 40),
 l1 42 (tm 41),
 mo 43 (tm 0),
 mo 44 (tm 7),
 is 45 1 (tm 43) (tm 44),
 l1 46 (tm 45),
 is 47 1 (tm 33) (tm 34),
 sr 1 (tm 47) (tm 42),
 is 48 1 (tm 35) (tm 37),
 sr 1 (tm 48) (tm 46)] []))
 (.seq (.keep [0, 1, 2, 6, 7])
 (.reg [mo 31 (tm 7),
 b2 32 .sub 3 (tm 31) (ki 1) 3 3,
 mo 7 (tm 32)]))))))

def lp178x1 : LCode := .loop (.seq (.keep [0, 1, 2, 6])
 (.seq (.seq (.reg [mo 10 (tm 6),
 mo 11 (tm 2),
 b2 12 .lss 3 (tm 10) (tm 11) 3 4])
 (.cond (tm 12) .skip
 (.exit 0)))
 (.seq (.keep [0, 1, 2, 6])
 (.seq (.block 1 (.seq (.reg [mo 15 (tm 6),
 mo 7 (tm 15)])
 (.block 2 lp178x0)))
 (.seq (.keep [0, 1, 2, 6])
 (.reg [mo 13 (tm 6),
 b2 14 .add 3 (tm 13) (ki 1) 3 3,
 mo 6 (tm 14)]))))))

def lf178 : LFunc := ⟨3, [],
 (.seq (.reg [mo 8 (tm 1),
 b2 9 .add 3 (tm 8) (ki 1) 3 3,
 mo 6 (tm 9)])
 (.block 0 lp178x1))⟩

def lp179x0 : LCode := .loop (.seq (.keep [0, 6, 7, 10])
 (.seq (.seq (.reg [mo 29 (tm 10),
 b2 30 .geq 3 (tm 29) (ki 0) 3 4])
 (.cond (tm 30) .skip
 (.exit 2)))
 (.seq (.keep [0, 6, 7, 10])
 (.seq (.block 3 (.seq (.dreg [mo 33 (tm 0),
 mo 34 (tm 6),
 mo 35 (tm 0),
 mo 36 (tm 6),
 mo 37 (tm 10),
 b2 38 .add 3 (tm 36) (tm 37) 3 3,
 mo 39 (tm 0),
 mo 40 (tm 6),
 mo 41 (tm 10),
 b2 42 .add 3 (tm 40) (tm 41) 3 3,
 is 43 1 (tm 39) (tm 42),
 l1 44 (tm 43),
 mo 45 (tm 0),
 mo 46 (tm 6),
 is 47 1 (tm 45) (tm 46),
 l1 48 (tm 47),
 is 49 1 (tm 33) (tm 34),
 sr 1 (tm 49) (tm 44),
 is 50 1 (tm 35) (tm 38),
 sr 1 (tm 50) (tm 48)] [])
 (.seq (.keep [0, 6, 7, 10])
 (.reg [mo 51 (tm 0),
 mo 52 (tm 7),
 mo 53 (tm 10),
 mo 54 (tm 6),
 ca 55 215 [(tm 51), (tm 52), (tm 53), (tm 54)]]))))
 (.seq (.keep [0, 6, 7, 10])
 (.reg [mo 31 (tm 10),
 b2 32 .sub 3 (tm 31) (ki 1) 3 3,
 mo 10 (tm 32)]))))))

def lp179x1 : LCode := .loop (.seq (.keep [0, 6, 7, 8, 9])
 (.seq (.seq (.reg [mo 18 (tm 9),
 b2 19 .geq 3 (tm 18) (ki 0) 3 4])
 (.cond (tm 19) .skip
 (.exit 0)))
 (.seq (.keep [0, 6, 7, 8, 9])
 (.seq (.block 1 (.reg [mo 22 (tm 0),
 mo 23 (tm 9),
 mo 24 (tm 8),
 mo 25 (tm 6),
 ca 26 215 [(tm 22), (tm 23), (tm 24), (tm 25)]]))
 (.seq (.keep [0, 6, 7, 8, 9])
 (.reg [mo 20 (tm 9),
 b2 21 .sub 3 (tm 20) (ki 1) 3 3,
 mo 9 (tm 21)]))))))

def lf179 : LFunc := ⟨3, [],
 (.seq (.reg [mo 11 (tm 1),
 mo 6 (tm 11)])
 (.seq (.reg [mo 7 (ki 0)])
 (.seq (.reg [mo 12 (tm 2),
 mo 13 (tm 1),
 b2 14 .sub 3 (tm 12) (tm 13) 3 3,
 mo 8 (tm 14)])
 (.seq (.seq (.reg [mo 15 (tm 8),
 b2 16 .sub 3 (tm 15) (ki 1) 3 3,
 b2 17 .quo 3 (tm 16) (ki 2) 3 3,
 mo 9 (tm 17)])
 (.block 0 lp179x1))
 (.seq (.keep [0, 6, 7, 8])
 (.seq (.reg [mo 27 (tm 8),
 b2 28 .sub 3 (tm 27) (ki 1) 3 3,
 mo 10 (tm 28)])
 (.block 2 lp179x0)))))))⟩

def lp180x0 : LCode := .loop (.seq (.keep [0, 1, 6, 7, 8, 9])
 (.seq (.seq (.reg [mo 26 (tm 9),
 mo 27 (tm 1),
 mo 28 (tm 6),
 b2 29 .quo 3 (tm 28) (ki 4) 3 3,
 b2 30 .mul 3 (tm 29) (ki 2) 3 3,
 b2 31 .add 3 (tm 27) (tm 30) 3 3,
 b2 32 .add 3 (tm 31) (ki 1) 3 3,
 b2 33 .leq 3 (tm 26) (tm 32) 3 4])
 (.seq (.keep [0, 1, 6, 7, 8, 9, 33])
 (.cond (tm 33) .skip
 (.exit 0))))
 (.seq (.keep [0, 1, 6, 7, 8, 9])
 (.seq (.block 1 (.seq (.reg [ca 36 217 [(tm 7)],
 mo 37 (tm 8),
 b2 38 .sub 135 (tm 37) (ku 1) 135 135,
 b2 39 .and 135 (tm 36) (tm 38) 135 135,
 cv 40 135 3 (tm 39) 3,
 mo 10 (tm 40)])
 (.seq (.seq (.reg [mo 41 (tm 10),
 mo 42 (tm 6),
 b2 43 .geq 3 (tm 41) (tm 42) 3 4])
 (.cond (tm 43) (.reg [mo 44 (tm 10),
 mo 45 (tm 6),
 b2 46 .sub 3 (tm 44) (tm 45) 3 3,
 mo 10 (tm 46)])
 .skip))
 (.seq (.keep [0, 1, 6, 7, 8, 9, 10])
 (.dreg [mo 47 (tm 0),
 mo 48 (tm 9),
 mo 49 (tm 0),
 mo 50 (tm 1),
 mo 51 (tm 10),
 b2 52 .add 3 (tm 50) (tm 51) 3 3,
 mo 53 (tm 0),
 mo 54 (tm 1),
 mo 55 (tm 10),
 b2 56 .add 3 (tm 54) (tm 55) 3 3,
 is 57 1 (tm 53) (tm 56),
 l1 58 (tm 57),
 mo 59 (tm 0),
 mo 60 (tm 9),
 is 61 1 (tm 59) (tm 60),
 l1 62 (tm 61),
 is 63 1 (tm 47) (tm 48),
 sr 1 (tm 63) (tm 58),
 is 64 1 (tm 49) (tm 52),
 sr 1 (tm 64) (tm 62)] [])))))
 (.seq (.keep [0, 1, 6, 7, 8, 9])
 (.reg [mo 34 (tm 9),
 b2 35 .add 3 (tm 34) (ki 1) 3 3,
 mo 9 (tm 35)]))))))

def lf180 : LFunc := ⟨3, [],
 (.seq (.reg [mo 11 (tm 2),
 mo 12 (tm 1),
 b2 13 .sub 3 (tm 11) (tm 12) 3 3,
 mo 6 (tm 13)])
 (.seq (.reg [mo 14 (tm 6),
 b2 15 .geq 3 (tm 14) (ki 8) 3 4])
 (.cond (tm 15) (.seq (.reg [mo 16 (tm 6),
 cv 17 3 277 (tm 16) 277,
 oo 7 (.alloc [(.int .u64 0)]),
 sr 1 (tm 7) (tm 17)])
 (.seq (.reg [mo 18 (tm 6),
 ca 19 216 [(tm 18)],
 mo 8 (tm 19)])
 (.seq (.reg [mo 20 (tm 1),
 mo 21 (tm 6),
 b2 22 .quo 3 (tm 21) (ki 4) 3 3,
 b2 23 .mul 3 (tm 22) (ki 2) 3 3,
 b2 24 .add 3 (tm 20) (tm 23) 3 3,
 b2 25 .sub 3 (tm 24) (ki 1) 3 3,
 mo 9 (tm 25)])
 (.block 0 lp180x0))))
 .skip)))⟩

def lf181 : LFunc := ⟨3, [.tmp 6, .tmp 7],
 (.seq (.reg [mo 6 (ki 0),
 mo 7 (ki 0)])
 (.seq (.reg [mo 13 (tm 2),
 mo 14 (tm 1),
 b2 15 .sub 3 (tm 13) (tm 14) 3 3,
 mo 8 (tm 15)])
 (.seq (.reg [oo 9 (.alloc [(.int .i64 0)])])
 (.seq (.reg [mo 16 (tm 1),
 mo 17 (tm 8),
 b2 18 .quo 3 (tm 17) (ki 4) 3 3,
 b2 19 .mul 3 (tm 18) (ki 1) 3 3,
 b2 20 .add 3 (tm 16) (tm 19) 3 3,
 mo 10 (tm 20)])
 (.seq (.reg [mo 21 (tm 1),
 mo 22 (tm 8),
 b2 23 .quo 3 (tm 22) (ki 4) 3 3,
 b2 24 .mul 3 (tm 23) (ki 2) 3 3,
 b2 25 .add 3 (tm 21) (tm 24) 3 3,
 mo 11 (tm 25)])
 (.seq (.reg [mo 26 (tm 1),
 mo 27 (tm 8),
 b2 28 .quo 3 (tm 27) (ki 4) 3 3,
 b2 29 .mul 3 (tm 28) (ki 3) 3 3,
 b2 30 .add 3 (tm 26) (tm 29) 3 3,
 mo 12 (tm 30)])
 (.seq (.seq (.reg [mo 31 (tm 8),
 b2 32 .geq 3 (tm 31) (ki 8) 3 4])
 (.cond (tm 32) (.seq (.seq (.reg [mo 33 (tm 8),
 b2 34 .geq 3 (tm 33) (ki 50) 3 4])
 (.cond (tm 34) (.seq (.reg [mo 35 (tm 0),
 mo 36 (tm 10),
 ca 37 218 [(tm 35), (tm 36), (tm 9)],
 mo 10 (tm 37)])
 (.seq (.reg [mo 38 (tm 0),
 mo 39 (tm 11),
 ca 40 218 [(tm 38), (tm 39), (tm 9)],
 mo 11 (tm 40)])
 (.reg [mo 41 (tm 0),
 mo 42 (tm 12),
 ca 43 218 [(tm 41), (tm 42), (tm 9)],
 mo 12 (tm 43)])))
 .skip))
 (.seq (.keep [0, 9, 10, 11, 12])
 (.reg [mo 44 (tm 0),
 mo 45 (tm 10),
 mo 46 (tm 11),
 mo 47 (tm 12),
 ca 48 219 [(tm 44), (tm 45), (tm 46), (tm 47), (tm 9)],
 mo 11 (tm 48)])))
 .skip))
 (.seq (.keep [9, 11])
 (.seq (.reg [l1 49 (tm 9)])
 (.block 0 (.seq (.reg [b2 52 .eql 3 (tm 49) (ki 0) 3 4,
 mo 51 (tm 52)])
 (.cond (tm 51) (.seq (.reg [mo 53 (tm 11),
 mo 6 (tm 53),
 mo 7 (ki 1)])
 .ret)
 (.seq (.reg [b2 55 .eql 3 (tm 49) (ki 12) 3 4,
 mo 54 (tm 55)])
 (.cond (tm 54) (.seq (.reg [mo 56 (tm 11),
 mo 6 (tm 56),
 mo 7 (ki 2)])
 .ret)
 (.seq (.reg [mo 50 (tm 11),
 mo 6 (tm 50),
 mo 7 (ki 0)])
 .ret)))))))))))))))⟩

def lp182x0 : LCode := .loop (.seq (.keep [0, 6, 7])
 (.seq (.seq (.reg [mo 11 (tm 6),
 mo 12 (tm 7),
 b2 13 .lss 3 (tm 11) (tm 12) 3 4])
 (.cond (tm 13) .skip
 (.exit 0)))
 (.seq (.keep [0, 6, 7])
 (.block 1 (.seq (.dreg [mo 14 (tm 0),
 mo 15 (tm 6),
 mo 16 (tm 0),
 mo 17 (tm 7),
 mo 18 (tm 0),
 mo 19 (tm 7),
 is 20 1 (tm 18) (tm 19),
 l1 21 (tm 20),
 mo 22 (tm 0),
 mo 23 (tm 6),
 is 24 1 (tm 22) (tm 23),
 l1 25 (tm 24),
 is 26 1 (tm 14) (tm 15),
 sr 1 (tm 26) (tm 21),
 is 27 1 (tm 16) (tm 17),
 sr 1 (tm 27) (tm 25)] [])
 (.seq (.keep [0, 6, 7])
 (.seq (.reg [mo 28 (tm 6),
 b2 29 .add 3 (tm 28) (ki 1) 3 3,
 mo 6 (tm 29)])
 (.reg [mo 30 (tm 7),
 b2 31 .sub 3 (tm 30) (ki 1) 3 3,
 mo 7 (tm 31)]))))))))

def lf182 : LFunc := ⟨3, [],
 (.seq (.reg [mo 8 (tm 1),
 mo 6 (tm 8)])
 (.seq (.reg [mo 9 (tm 2),
 b2 10 .sub 3 (tm 9) (ki 1) 3 3,
 mo 7 (tm 10)])
 (.block 0 lp182x0)))⟩

def lp183x0 : LCode := .loop (.seq (.keep [0, 1, 2, 7, 8, 10])
 (.seq (.seq (.reg [mo 101 (tm 10),
 mo 102 (tm 2),
 b2 103 .lss 3 (tm 101) (tm 102) 3 4])
 (.cond (tm 103) .skip
 (.exit 6)))
 (.seq (.keep [0, 1, 2, 7, 8, 10])
 (.seq (.block 7 (.seq (.seq (.dreg [mo 106 (tm 0),
 mo 107 (tm 10),
 is 108 1 (tm 106) (tm 107),
 l1 109 (tm 108),
 mo 110 (tm 0),
 mo 111 (tm 10),
 b2 112 .sub 3 (tm 111) (ki 1) 3 3,
 is 113 1 (tm 110) (tm 112),
 l1 114 (tm 113),
 ca 115 184 [(tm 109), (tm 114)],
 u1 116 .not 4 (tm 115) 4] [])
 (.seq (.keep [0, 1, 2, 7, 8, 10, 116])
 (.cond (tm 116) (.exit 6)
 .skip)))
 (.seq (.keep [0, 1, 2, 7, 8, 10])
 (.dreg [mo 117 (tm 0),
 mo 118 (tm 10),
 mo 119 (tm 0),
 mo 120 (tm 10),
 b2 121 .sub 3 (tm 120) (ki 1) 3 3,
 mo 122 (tm 0),
 mo 123 (tm 10),
 b2 124 .sub 3 (tm 123) (ki 1) 3 3,
 is 125 1 (tm 122) (tm 124),
 l1 126 (tm 125),
 mo 127 (tm 0),
 mo 128 (tm 10),
 is 129 1 (tm 127) (tm 128),
 l1 130 (tm 129),
 is 131 1 (tm 117) (tm 118),
 sr 1 (tm 131) (tm 126),
 is 132 1 (tm 119) (tm 121),
 sr 1 (tm 132) (tm 130)] []))))
 (.seq (.keep [0, 1, 2, 7, 8, 10])
 (.reg [mo 104 (tm 10),
 b2 105 .add 3 (tm 104) (ki 1) 3 3,
 mo 10 (tm 105)]))))))

def lp183x1 : LCode := .loop (.seq (.keep [0, 1, 2, 7, 8, 9])
 (.seq (.seq (.reg [mo 64 (tm 9),
 b2 65 .geq 3 (tm 64) (ki 1) 3 4])
 (.cond (tm 65) .skip
 (.exit 4)))
 (.seq (.keep [0, 1, 2, 7, 8, 9])
 (.seq (.block 5 (.seq (.seq (.dreg [mo 68 (tm 0),
 mo 69 (tm 9),
 is 70 1 (tm 68) (tm 69),
 l1 71 (tm 70),
 mo 72 (tm 0),
 mo 73 (tm 9),
 b2 74 .sub 3 (tm 73) (ki 1) 3 3,
 is 75 1 (tm 72) (tm 74),
 l1 76 (tm 75),
 ca 77 184 [(tm 71), (tm 76)],
 u1 78 .not 4 (tm 77) 4] [])
 (.seq (.keep [0, 1, 2, 7, 8, 9, 78])
 (.cond (tm 78) (.exit 4)
 .skip)))
 (.seq (.keep [0, 1, 2, 7, 8, 9])
 (.dreg [mo 79 (tm 0),
 mo 80 (tm 9),
 mo 81 (tm 0),
 mo 82 (tm 9),
 b2 83 .sub 3 (tm 82) (ki 1) 3 3,
 mo 84 (tm 0),
 mo 85 (tm 9),
 b2 86 .sub 3 (tm 85) (ki 1) 3 3,
 is 87 1 (tm 84) (tm 86),
 l1 88 (tm 87),
 mo 89 (tm 0),
 mo 90 (tm 9),
 is 91 1 (tm 89) (tm 90),
 l1 92 (tm 91),
 is 93 1 (tm 79) (tm 80),
 sr 1 (tm 93) (tm 88),
 is 94 1 (tm 81) (tm 83),
 sr 1 (tm 94) (tm 92)] []))))
 (.seq (.keep [0, 1, 2, 7, 8, 9])
 (.reg [mo 66 (tm 9),
 b2 67 .sub 3 (tm 66) (ki 1) 3 3,
 mo 9 (tm 67)]))))))

def lp183x2 : LCode := .loop (.seq (.keep [0, 1, 2, 7, 8])
 (.seq (.seq (.dreg [mo 17 (tm 7),
 mo 18 (tm 2),
 b2 19 .lss 3 (tm 17) (tm 18) 3 4,
 mo 20 (tm 19),
 ⟨(some 21), (some (20, true)), .mv (tm 0)⟩,
 ⟨(some 22), (some (20, true)), .mv (tm 7)⟩,
 ⟨(some 23), (some (20, true)), .iadrs 1 (tm 21) (tm 22)⟩,
 ⟨(some 24), (some (20, true)), .ld1 (tm 23)⟩,
 ⟨(some 25), (some (20, true)), .mv (tm 0)⟩,
 ⟨(some 26), (some (20, true)), .mv (tm 7)⟩,
 ⟨(some 27), (some (20, true)), .prim ⟨none, (.binOp .sub 3 (tm 26) (ki 1) 3), 3, "", #[], none⟩⟩,
 ⟨(some 28), (some (20, true)), .iadrs 1 (tm 25) (tm 27)⟩,
 ⟨(some 29), (some (20, true)), .ld1 (tm 28)⟩,
 ⟨(some 30), (some (20, true)), .call 184 [(tm 24), (tm 29)]⟩,
 ⟨(some 31), (some (20, true)), .prim ⟨none, (.unOp .not 4 (tm 30)), 4, "", #[], none⟩⟩,
 oo 32 (.pick (tm 20) (tm 31) (kB false))] [])
 (.seq (.keep [0, 1, 2, 7, 8, 32])
 (.cond (tm 32) .skip
 (.exit 2))))
 (.seq (.keep [0, 1, 2, 7, 8])
 (.block 3 (.reg [mo 33 (tm 7),
 b2 34 .add 3 (tm 33) (ki 1) 3 3,
 mo 7 (tm 34)])))))

def lp183x3 : LCode := .loop (.seq (.keep [0, 1, 2, 7, 8])
 (.seq (.seq (.reg [mo 13 (tm 8),
 b2 14 .lss 3 (tm 13) (ki 5) 3 4])
 (.cond (tm 14) .skip
 (.exit 0)))
 (.seq (.keep [0, 1, 2, 7, 8])
 (.seq (.block 1 (.seq (.block 2 lp183x2)
 (.seq (.keep [0, 1, 2, 7, 8])
 (.seq (.seq (.reg [mo 35 (tm 7),
 mo 36 (tm 2),
 b2 37 .eql 3 (tm 35) (tm 36) 3 4])
 (.cond (tm 37) (.seq (.reg [mo 6 (kB true)])
 .ret)
 .skip))
 (.seq (.keep [0, 1, 2, 7, 8])
 (.seq (.seq (.reg [mo 38 (tm 2),
 mo 39 (tm 1),
 b2 40 .sub 3 (tm 38) (tm 39) 3 3,
 b2 41 .lss 3 (tm 40) (ki 50) 3 4])
 (.cond (tm 41) (.seq (.reg [mo 6 (kB false)])
 .ret)
 .skip))
 (.seq (.keep [0, 1, 2, 7, 8])
 (.seq (.dreg [mo 42 (tm 0),
 mo 43 (tm 7),
 mo 44 (tm 0),
 mo 45 (tm 7),
 b2 46 .sub 3 (tm 45) (ki 1) 3 3,
 mo 47 (tm 0),
 mo 48 (tm 7),
 b2 49 .sub 3 (tm 48) (ki 1) 3 3,
 is 50 1 (tm 47) (tm 49),
 l1 51 (tm 50),
 mo 52 (tm 0),
 mo 53 (tm 7),
 is 54 1 (tm 52) (tm 53),
 l1 55 (tm 54),
 is 56 1 (tm 42) (tm 43),
 sr 1 (tm 56) (tm 51),
 is 57 1 (tm 44) (tm 46),
 sr 1 (tm 57) (tm 55)] [])
 (.seq (.keep [0, 1, 2, 7, 8])
 (.seq (.seq (.reg [mo 58 (tm 7),
 mo 59 (tm 1),
 b2 60 .sub 3 (tm 58) (tm 59) 3 3,
 b2 61 .geq 3 (tm 60) (ki 2) 3 4])
 (.cond (tm 61) (.seq (.reg [mo 62 (tm 7),
 b2 63 .sub 3 (tm 62) (ki 1) 3 3,
 mo 9 (tm 63)])
 (.block 4 lp183x1))
 .skip))
 (.seq (.keep [0, 1, 2, 7, 8])
 (.seq (.reg [mo 95 (tm 2),
 mo 96 (tm 7),
 b2 97 .sub 3 (tm 95) (tm 96) 3 3,
 b2 98 .geq 3 (tm 97) (ki 2) 3 4])
 (.cond (tm 98) (.seq (.reg [mo 99 (tm 7),
 b2 100 .add 3 (tm 99) (ki 1) 3 3,
 mo 10 (tm 100)])
 (.block 6 lp183x0))
 .skip)))))))))))))
 (.seq (.keep [0, 1, 2, 7, 8])
 (.reg [mo 15 (tm 8),
 b2 16 .add 3 (tm 15) (ki 1) 3 3,
 mo 8 (tm 16)]))))))

def lf183 : LFunc := ⟨3, [.tmp 6],
 (.seq (.reg [mo 6 (kB false)])
 (.seq (.reg [mo 11 (tm 1),
 b2 12 .add 3 (tm 11) (ki 1) 3 3,
 mo 7 (tm 12)])
 (.seq (.seq (.reg [mo 8 (ki 0)])
 (.block 0 lp183x3))
 (.seq (.keep [])
 (.seq (.reg [mo 6 (kB false)])
 .ret)))))⟩

def lf184 : LFunc := ⟨2, [.tmp 4],
 (.seq (.reg [mo 4 (kB false)])
 (.seq (.reg [mo 5 (tm 0),
 ca 6 220 [(tm 5)],
 mo 7 (tm 6),
 ⟨(some 8), (some (7, true)), .mv (tm 1)⟩,
 ⟨(some 9), (some (7, true)), .call 220 [(tm 8)]⟩,
 ⟨(some 10), (some (7, true)), .prim ⟨none, (.unOp .not 4 (tm 9)), 4, "", #[], none⟩⟩,
 oo 11 (.pick (tm 7) (tm 10) (kB false)),
 mo 12 (tm 11),
 ⟨(some 13), (some (12, false)), .mv (tm 0)⟩,
 ⟨(some 14), (some (12, false)), .mv (tm 1)⟩,
 ⟨(some 15), (some (12, false)), .prim ⟨none, (.binOp .lss 22 (tm 13) (tm 14) 22), 4, "", #[], none⟩⟩,
 oo 16 (.pick (tm 12) (kB true) (tm 15)),
 mo 4 (tm 16)])
 (.seq (.keep [4])
 .ret)))⟩

def lp185x0 : LCode := .loop (.seq (.keep [0, 1, 9, 10])
 (.seq (.seq (.dreg [mo 46 (tm 9),
 mo 47 (tm 10),
 b2 48 .leq 3 (tm 46) (tm 47) 3 4,
 mo 49 (tm 48),
 ⟨(some 50), (some (49, true)), .mv (tm 0)⟩,
 ⟨(some 51), (some (49, true)), .mv (tm 1)⟩,
 ⟨(some 52), (some (49, true)), .iadrs 1 (tm 50) (tm 51)⟩,
 ⟨(some 53), (some (49, true)), .ld1 (tm 52)⟩,
 ⟨(some 54), (some (49, true)), .mv (tm 0)⟩,
 ⟨(some 55), (some (49, true)), .mv (tm 10)⟩,
 ⟨(some 56), (some (49, true)), .iadrs 1 (tm 54) (tm 55)⟩,
 ⟨(some 57), (some (49, true)), .ld1 (tm 56)⟩,
 ⟨(some 58), (some (49, true)), .call 184 [(tm 53), (tm 57)]⟩,
 oo 59 (.pick (tm 49) (tm 58) (kB false))] [])
 (.seq (.keep [0, 1, 9, 10, 59])
 (.cond (tm 59) .skip
 (.exit 4))))
 (.seq (.keep [0, 1, 9, 10])
 (.block 5 (.reg [mo 60 (tm 10),
 b2 61 .sub 3 (tm 60) (ki 1) 3 3,
 mo 10 (tm 61)])))))

def lp185x1 : LCode := .loop (.seq (.keep [0, 1, 9, 10])
 (.seq (.seq (.dreg [mo 29 (tm 9),
 mo 30 (tm 10),
 b2 31 .leq 3 (tm 29) (tm 30) 3 4,
 mo 32 (tm 31),
 ⟨(some 33), (some (32, true)), .mv (tm 0)⟩,
 ⟨(some 34), (some (32, true)), .mv (tm 1)⟩,
 ⟨(some 35), (some (32, true)), .iadrs 1 (tm 33) (tm 34)⟩,
 ⟨(some 36), (some (32, true)), .ld1 (tm 35)⟩,
 ⟨(some 37), (some (32, true)), .mv (tm 0)⟩,
 ⟨(some 38), (some (32, true)), .mv (tm 9)⟩,
 ⟨(some 39), (some (32, true)), .iadrs 1 (tm 37) (tm 38)⟩,
 ⟨(some 40), (some (32, true)), .ld1 (tm 39)⟩,
 ⟨(some 41), (some (32, true)), .call 184 [(tm 36), (tm 40)]⟩,
 ⟨(some 42), (some (32, true)), .prim ⟨none, (.unOp .not 4 (tm 41)), 4, "", #[], none⟩⟩,
 oo 43 (.pick (tm 32) (tm 42) (kB false))] [])
 (.seq (.keep [0, 1, 9, 10, 43])
 (.cond (tm 43) .skip
 (.exit 2))))
 (.seq (.keep [0, 1, 9, 10])
 (.block 3 (.reg [mo 44 (tm 9),
 b2 45 .add 3 (tm 44) (ki 1) 3 3,
 mo 9 (tm 45)])))))

def lp185x2 : LCode := .loop (.seq (.keep [0, 1, 9, 10])
 (.block 1 (.seq (.block 2 lp185x1)
 (.seq (.keep [0, 1, 9, 10])
 (.seq (.block 4 lp185x0)
 (.seq (.keep [0, 1, 9, 10])
 (.seq (.seq (.reg [mo 62 (tm 9),
 mo 63 (tm 10),
 b2 64 .gtr 3 (tm 62) (tm 63) 3 4])
 (.cond (tm 64) (.exit 0)
 .skip))
 (.seq (.keep [0, 1, 9, 10])
 (.seq (.dreg [mo 65 (tm 0),
 mo 66 (tm 9),
 mo 67 (tm 0),
 mo 68 (tm 10),
 mo 69 (tm 0),
 mo 70 (tm 10),
 is 71 1 (tm 69) (tm 70),
 l1 72 (tm 71),
 mo 73 (tm 0),
 mo 74 (tm 9),
 is 75 1 (tm 73) (tm 74),
 l1 76 (tm 75),
 is 77 1 (tm 65) (tm 66),
 sr 1 (tm 77) (tm 72),
 is 78 1 (tm 67) (tm 68),
 sr 1 (tm 78) (tm 76)] [])
 (.seq (.keep [0, 1, 9, 10])
 (.seq (.reg [mo 79 (tm 9),
 b2 80 .add 3 (tm 79) (ki 1) 3 3,
 mo 9 (tm 80)])
 (.reg [mo 81 (tm 10),
 b2 82 .sub 3 (tm 81) (ki 1) 3 3,
 mo 10 (tm 82)]))))))))))))

def lf185 : LFunc := ⟨4, [.tmp 8],
 (.seq (.reg [mo 8 (ki 0)])
 (.seq (.dreg [mo 11 (tm 0),
 mo 12 (tm 1),
 mo 13 (tm 0),
 mo 14 (tm 3),
 mo 15 (tm 0),
 mo 16 (tm 3),
 is 17 1 (tm 15) (tm 16),
 l1 18 (tm 17),
 mo 19 (tm 0),
 mo 20 (tm 1),
 is 21 1 (tm 19) (tm 20),
 l1 22 (tm 21),
 is 23 1 (tm 11) (tm 12),
 sr 1 (tm 23) (tm 18),
 is 24 1 (tm 13) (tm 14),
 sr 1 (tm 24) (tm 22)] [])
 (.seq (.keep [0, 1, 2])
 (.seq (.reg [mo 25 (tm 1),
 b2 26 .add 3 (tm 25) (ki 1) 3 3,
 mo 27 (tm 2),
 b2 28 .sub 3 (tm 27) (ki 1) 3 3,
 mo 9 (tm 26),
 mo 10 (tm 28)])
 (.seq (.block 0 lp185x2)
 (.seq (.keep [9])
 (.seq (.reg [mo 83 (tm 9),
 mo 8 (tm 83)])
 .ret)))))))⟩

def lp186x0 : LCode := .loop (.seq (.keep [0, 1, 10, 11])
 (.seq (.seq (.dreg [mo 115 (tm 10),
 mo 116 (tm 11),
 b2 117 .leq 3 (tm 115) (tm 116) 3 4,
 mo 118 (tm 117),
 ⟨(some 119), (some (118, true)), .mv (tm 0)⟩,
 ⟨(some 120), (some (118, true)), .mv (tm 11)⟩,
 ⟨(some 121), (some (118, true)), .iadrs 1 (tm 119) (tm 120)⟩,
 ⟨(some 122), (some (118, true)), .ld1 (tm 121)⟩,
 ⟨(some 123), (some (118, true)), .mv (tm 0)⟩,
 ⟨(some 124), (some (118, true)), .mv (tm 1)⟩,
 ⟨(some 125), (some (118, true)), .iadrs 1 (tm 123) (tm 124)⟩,
 ⟨(some 126), (some (118, true)), .ld1 (tm 125)⟩,
 ⟨(some 127), (some (118, true)), .call 184 [(tm 122), (tm 126)]⟩,
 ⟨(some 128), (some (118, true)), .prim ⟨none, (.unOp .not 4 (tm 127)), 4, "", #[], none⟩⟩,
 oo 129 (.pick (tm 118) (tm 128) (kB false))] [])
 (.seq (.keep [0, 1, 10, 11, 129])
 (.cond (tm 129) .skip
 (.exit 8))))
 (.seq (.keep [0, 1, 10, 11])
 (.block 9 (.reg [mo 130 (tm 11),
 b2 131 .sub 3 (tm 130) (ki 1) 3 3,
 mo 11 (tm 131)])))))

def lp186x1 : LCode := .loop (.seq (.keep [0, 1, 10, 11])
 (.seq (.seq (.dreg [mo 99 (tm 10),
 mo 100 (tm 11),
 b2 101 .leq 3 (tm 99) (tm 100) 3 4,
 mo 102 (tm 101),
 ⟨(some 103), (some (102, true)), .mv (tm 0)⟩,
 ⟨(some 104), (some (102, true)), .mv (tm 10)⟩,
 ⟨(some 105), (some (102, true)), .iadrs 1 (tm 103) (tm 104)⟩,
 ⟨(some 106), (some (102, true)), .ld1 (tm 105)⟩,
 ⟨(some 107), (some (102, true)), .mv (tm 0)⟩,
 ⟨(some 108), (some (102, true)), .mv (tm 1)⟩,
 ⟨(some 109), (some (102, true)), .iadrs 1 (tm 107) (tm 108)⟩,
 ⟨(some 110), (some (102, true)), .ld1 (tm 109)⟩,
 ⟨(some 111), (some (102, true)), .call 184 [(tm 106), (tm 110)]⟩,
 oo 112 (.pick (tm 102) (tm 111) (kB false))] [])
 (.seq (.keep [0, 1, 10, 11, 112])
 (.cond (tm 112) .skip
 (.exit 6))))
 (.seq (.keep [0, 1, 10, 11])
 (.block 7 (.reg [mo 113 (tm 10),
 b2 114 .add 3 (tm 113) (ki 1) 3 3,
 mo 10 (tm 114)])))))

def lp186x2 : LCode := .loop (.seq (.keep [0, 1, 10, 11])
 (.block 5 (.seq (.block 6 lp186x1)
 (.seq (.keep [0, 1, 10, 11])
 (.seq (.block 8 lp186x0)
 (.seq (.keep [0, 1, 10, 11])
 (.seq (.seq (.reg [mo 132 (tm 10),
 mo 133 (tm 11),
 b2 134 .gtr 3 (tm 132) (tm 133) 3 4])
 (.cond (tm 134) (.exit 4)
 .skip))
 (.seq (.keep [0, 1, 10, 11])
 (.seq (.dreg [mo 135 (tm 0),
 mo 136 (tm 10),
 mo 137 (tm 0),
 mo 138 (tm 11),
 mo 139 (tm 0),
 mo 140 (tm 11),
 is 141 1 (tm 139) (tm 140),
 l1 142 (tm 141),
 mo 143 (tm 0),
 mo 144 (tm 10),
 is 145 1 (tm 143) (tm 144),
 l1 146 (tm 145),
 is 147 1 (tm 135) (tm 136),
 sr 1 (tm 147) (tm 142),
 is 148 1 (tm 137) (tm 138),
 sr 1 (tm 148) (tm 146)] [])
 (.seq (.keep [0, 1, 10, 11])
 (.seq (.reg [mo 149 (tm 10),
 b2 150 .add 3 (tm 149) (ki 1) 3 3,
 mo 10 (tm 150)])
 (.reg [mo 151 (tm 11),
 b2 152 .sub 3 (tm 151) (ki 1) 3 3,
 mo 11 (tm 152)]))))))))))))

def lp186x3 : LCode := .loop (.seq (.keep [0, 1, 10, 11])
 (.seq (.seq (.dreg [mo 46 (tm 10),
 mo 47 (tm 11),
 b2 48 .leq 3 (tm 46) (tm 47) 3 4,
 mo 49 (tm 48),
 ⟨(some 50), (some (49, true)), .mv (tm 0)⟩,
 ⟨(some 51), (some (49, true)), .mv (tm 11)⟩,
 ⟨(some 52), (some (49, true)), .iadrs 1 (tm 50) (tm 51)⟩,
 ⟨(some 53), (some (49, true)), .ld1 (tm 52)⟩,
 ⟨(some 54), (some (49, true)), .mv (tm 0)⟩,
 ⟨(some 55), (some (49, true)), .mv (tm 1)⟩,
 ⟨(some 56), (some (49, true)), .iadrs 1 (tm 54) (tm 55)⟩,
 ⟨(some 57), (some (49, true)), .ld1 (tm 56)⟩,
 ⟨(some 58), (some (49, true)), .call 184 [(tm 53), (tm 57)]⟩,
 ⟨(some 59), (some (49, true)), .prim ⟨none, (.unOp .not 4 (tm 58)), 4, "", #[], none⟩⟩,
 oo 60 (.pick (tm 49) (tm 59) (kB false))] [])
 (.seq (.keep [0, 1, 10, 11, 60])
 (.cond (tm 60) .skip
 (.exit 2))))
 (.seq (.keep [0, 1, 10, 11])
 (.block 3 (.reg [mo 61 (tm 11),
 b2 62 .sub 3 (tm 61) (ki 1) 3 3,
 mo 11 (tm 62)])))))

def lp186x4 : LCode := .loop (.seq (.keep [0, 1, 10, 11])
 (.seq (.seq (.dreg [mo 30 (tm 10),
 mo 31 (tm 11),
 b2 32 .leq 3 (tm 30) (tm 31) 3 4,
 mo 33 (tm 32),
 ⟨(some 34), (some (33, true)), .mv (tm 0)⟩,
 ⟨(some 35), (some (33, true)), .mv (tm 10)⟩,
 ⟨(some 36), (some (33, true)), .iadrs 1 (tm 34) (tm 35)⟩,
 ⟨(some 37), (some (33, true)), .ld1 (tm 36)⟩,
 ⟨(some 38), (some (33, true)), .mv (tm 0)⟩,
 ⟨(some 39), (some (33, true)), .mv (tm 1)⟩,
 ⟨(some 40), (some (33, true)), .iadrs 1 (tm 38) (tm 39)⟩,
 ⟨(some 41), (some (33, true)), .ld1 (tm 40)⟩,
 ⟨(some 42), (some (33, true)), .call 184 [(tm 37), (tm 41)]⟩,
 oo 43 (.pick (tm 33) (tm 42) (kB false))] [])
 (.seq (.keep [0, 1, 10, 11, 43])
 (.cond (tm 43) .skip
 (.exit 0))))
 (.seq (.keep [0, 1, 10, 11])
 (.block 1 (.reg [mo 44 (tm 10),
 b2 45 .add 3 (tm 44) (ki 1) 3 3,
 mo 10 (tm 45)])))))

def lf186 : LFunc := ⟨4, [.tmp 8, .tmp 9],
 (.seq (.reg [mo 8 (ki 0),
 mo 9 (kB false)])
 (.seq (.dreg [mo 12 (tm 0),
 mo 13 (tm 1),
 mo 14 (tm 0),
 mo 15 (tm 3),
 mo 16 (tm 0),
 mo 17 (tm 3),
 is 18 1 (tm 16) (tm 17),
 l1 19 (tm 18),
 mo 20 (tm 0),
 mo 21 (tm 1),
 is 22 1 (tm 20) (tm 21),
 l1 23 (tm 22),
 is 24 1 (tm 12) (tm 13),
 sr 1 (tm 24) (tm 19),
 is 25 1 (tm 14) (tm 15),
 sr 1 (tm 25) (tm 23)] [])
 (.seq (.keep [0, 1, 2])
 (.seq (.reg [mo 26 (tm 1),
 b2 27 .add 3 (tm 26) (ki 1) 3 3,
 mo 28 (tm 2),
 b2 29 .sub 3 (tm 28) (ki 1) 3 3,
 mo 10 (tm 27),
 mo 11 (tm 29)])
 (.seq (.block 0 lp186x4)
 (.seq (.keep [0, 1, 10, 11])
 (.seq (.block 2 lp186x3)
 (.seq (.keep [0, 1, 10, 11])
 (.seq (.seq (.reg [mo 63 (tm 10),
 mo 64 (tm 11),
 b2 65 .gtr 3 (tm 63) (tm 64) 3 4])
 (.cond (tm 65) (.seq (.dreg [mo 66 (tm 0),
 mo 67 (tm 11),
 mo 68 (tm 0),
 mo 69 (tm 1),
 mo 70 (tm 0),
 mo 71 (tm 1),
 is 72 1 (tm 70) (tm 71),
 l1 73 (tm 72),
 mo 74 (tm 0),
 mo 75 (tm 11),
 is 76 1 (tm 74) (tm 75),
 l1 77 (tm 76),
 is 78 1 (tm 66) (tm 67),
 sr 1 (tm 78) (tm 73),
 is 79 1 (tm 68) (tm 69),
 sr 1 (tm 79) (tm 77)] [])
 (.seq (.keep [11])
 (.seq (.reg [mo 80 (tm 11),
 mo 8 (tm 80),
 mo 9 (kB true)])
 .ret)))
 .skip))
 (.seq (.keep [0, 1, 10, 11])
 (.seq (.dreg [mo 81 (tm 0),
 mo 82 (tm 10),
 mo 83 (tm 0),
 mo 84 (tm 11),
 mo 85 (tm 0),
 mo 86 (tm 11),
 is 87 1 (tm 85) (tm 86),
 l1 88 (tm 87),
 mo 89 (tm 0),
 mo 90 (tm 10),
 is 91 1 (tm 89) (tm 90),
 l1 92 (tm 91),
 is 93 1 (tm 81) (tm 82),
 sr 1 (tm 93) (tm 88),
 is 94 1 (tm 83) (tm 84),
 sr 1 (tm 94) (tm 92)] [])
 (.seq (.keep [0, 1, 10, 11])
 (.seq (.reg [mo 95 (tm 10),
 b2 96 .add 3 (tm 95) (ki 1) 3 3,
 mo 10 (tm 96)])
 (.seq (.reg [mo 97 (tm 11),
 b2 98 .sub 3 (tm 97) (ki 1) 3 3,
 mo 11 (tm 98)])
 (.seq (.block 4 lp186x2)
 (.seq (.keep [0, 1, 11])
 (.seq (.dreg [mo 153 (tm 0),
 mo 154 (tm 11),
 mo 155 (tm 0),
 mo 156 (tm 1),
 mo 157 (tm 0),
 mo 158 (tm 1),
 is 159 1 (tm 157) (tm 158),
 l1 160 (tm 159),
 mo 161 (tm 0),
 mo 162 (tm 11),
 is 163 1 (tm 161) (tm 162),
 l1 164 (tm 163),
 is 165 1 (tm 153) (tm 154),
 sr 1 (tm 165) (tm 160),
 is 166 1 (tm 155) (tm 156),
 sr 1 (tm 166) (tm 164)] [])
 (.seq (.keep [11])
 (.seq (.reg [mo 167 (tm 11),
 mo 8 (tm 167),
 mo 9 (kB false)])
 .ret)))))))))))))))))))⟩

def lf187 : LFunc := ⟨1, [.tmp 2],
 (.seq (.reg [mo 2 (ki 0)])
 (.seq (.seq (.reg [mo 3 (tm 0),
 b2 4 .geq 33 (tm 3) (.const (.int .u32 65536)) 33 4])
 (.cond (tm 4) (.seq (.reg [mo 5 (tm 0),
 b2 6 .shr 33 (tm 5) (ku 16) 135 33,
 mo 0 (tm 6)])
 (.reg [mo 2 (ki 16)]))
 .skip))
 (.seq (.keep [0, 2])
 (.seq (.seq (.reg [mo 7 (tm 0),
 b2 8 .geq 33 (tm 7) (.const (.int .u32 256)) 33 4])
 (.cond (tm 8) (.seq (.reg [mo 9 (tm 0),
 b2 10 .shr 33 (tm 9) (ku 8) 135 33,
 mo 0 (tm 10)])
 (.reg [mo 11 (tm 2),
 b2 12 .add 3 (tm 11) (ki 8) 3 3,
 mo 2 (tm 12)]))
 .skip))
 (.seq (.keep [0, 2])
 (.seq (.reg [mo 13 (tm 2),
 mo 14 (tm 0),
 cv 15 33 5 (tm 14) 5,
 ix 16 9 (.const (.string ⟨#[0, 1, 2, 2, 3, 3, 3, 3, 4, 4, 4, 4, 4, 4, 4, 4, 5, 5, 5, 5, 5, 5, 5, 5, 5, 5, 5, 5, 5, 5, 5, 5, 6, 6, 6, 6, 6, 6, 6, 6, 6, 6, 6, 6, 6, 6, 6, 6, 6, 6, 6, 6, 6, 6, 6, 6, 6, 6, 6, 6, 6, 6, 6, 6, 7, 7, 7, 7, 7, 7, 7, 7, 7, 7, 7, 7, 7, 7, 7, 7, 7, 7, 7, 7, 7, 7, 7, 7, 7, 7, 7, 7, 7, 7, 7, 7, 7, 7, 7, 7, 7, 7, 7, 7, 7, 7, 7, 7, 7, 7, 7, 7, 7, 7, 7, 7, 7, 7, 7, 7, 7, 7, 7, 7, 7, 7, 7, 7, 8, 8, 8, 8, 8, 8, 8, 8, 8, 8, 8, 8, 8, 8, 8, 8, 8, 8, 8, 8, 8, 8, 8, 8, 8, 8, 8, 8, 8, 8, 8, 8, 8, 8, 8, 8, 8, 8, 8, 8, 8, 8, 8, 8, 8, 8, 8, 8, 8, 8, 8, 8, 8, 8, 8, 8, 8, 8, 8, 8, 8, 8, 8, 8, 8, 8, 8, 8, 8, 8, 8, 8, 8, 8, 8, 8, 8, 8, 8, 8, 8, 8, 8, 8, 8, 8, 8, 8, 8, 8, 8, 8, 8, 8, 8, 8, 8, 8, 8, 8, 8, 8, 8, 8, 8, 8, 8, 8, 8, 8, 8, 8, 8, 8, 8, 8, 8, 8, 8, 8, 8, 8, 8, 8, 8, 8, 8, 8]⟩)) (tm 15) 5,
 cv 17 5 3 (tm 16) 3,
 b2 18 .add 3 (tm 13) (tm 17) 3 3,
 mo 2 (tm 18)])
 .ret))))))⟩

def lf188 : LFunc := ⟨1, [.tmp 2],
 (.seq (.reg [mo 2 (ki 0)])
 (.seq (.seq (.reg [mo 3 (tm 0),
 b2 4 .geq 22 (tm 3) (ku 4294967296) 22 4])
 (.cond (tm 4) (.seq (.reg [mo 5 (tm 0),
 b2 6 .shr 22 (tm 5) (ku 32) 135 22,
 mo 0 (tm 6)])
 (.reg [mo 2 (ki 32)]))
 .skip))
 (.seq (.keep [0, 2])
 (.seq (.seq (.reg [mo 7 (tm 0),
 b2 8 .geq 22 (tm 7) (ku 65536) 22 4])
 (.cond (tm 8) (.seq (.reg [mo 9 (tm 0),
 b2 10 .shr 22 (tm 9) (ku 16) 135 22,
 mo 0 (tm 10)])
 (.reg [mo 11 (tm 2),
 b2 12 .add 3 (tm 11) (ki 16) 3 3,
 mo 2 (tm 12)]))
 .skip))
 (.seq (.keep [0, 2])
 (.seq (.seq (.reg [mo 13 (tm 0),
 b2 14 .geq 22 (tm 13) (ku 256) 22 4])
 (.cond (tm 14) (.seq (.reg [mo 15 (tm 0),
 b2 16 .shr 22 (tm 15) (ku 8) 135 22,
 mo 0 (tm 16)])
 (.reg [mo 17 (tm 2),
 b2 18 .add 3 (tm 17) (ki 8) 3 3,
 mo 2 (tm 18)]))
 .skip))
 (.seq (.keep [0, 2])
 (.seq (.reg [mo 19 (tm 2),
 mo 20 (tm 0),
 cv 21 22 5 (tm 20) 5,
 ix 22 9 (.const (.string ⟨#[0, 1, 2, 2, 3, 3, 3, 3, 4, 4, 4, 4, 4, 4, 4, 4, 5, 5, 5, 5, 5, 5, 5, 5, 5, 5, 5, 5, 5, 5, 5, 5, 6, 6, 6, 6, 6, 6, 6, 6, 6, 6, 6, 6, 6, 6, 6, 6, 6, 6, 6, 6, 6, 6, 6, 6, 6, 6, 6, 6, 6, 6, 6, 6, 7, 7, 7, 7, 7, 7, 7, 7, 7, 7, 7, 7, 7, 7, 7, 7, 7, 7, 7, 7, 7, 7, 7, 7, 7, 7, 7, 7, 7, 7, 7, 7, 7, 7, 7, 7, 7, 7, 7, 7, 7, 7, 7, 7, 7, 7, 7, 7, 7, 7, 7, 7, 7, 7, 7, 7, 7, 7, 7, 7, 7, 7, 7, 7, 8, 8, 8, 8, 8, 8, 8, 8, 8, 8, 8, 8, 8, 8, 8, 8, 8, 8, 8, 8, 8, 8, 8, 8, 8, 8, 8, 8, 8, 8, 8, 8, 8, 8, 8, 8, 8, 8, 8, 8, 8, 8, 8, 8, 8, 8, 8, 8, 8, 8, 8, 8, 8, 8, 8, 8, 8, 8, 8, 8, 8, 8, 8, 8, 8, 8, 8, 8, 8, 8, 8, 8, 8, 8, 8, 8, 8, 8, 8, 8, 8, 8, 8, 8, 8, 8, 8, 8, 8, 8, 8, 8, 8, 8, 8, 8, 8, 8, 8, 8, 8, 8, 8, 8, 8, 8, 8, 8, 8, 8, 8, 8, 8, 8, 8, 8, 8, 8, 8, 8, 8, 8, 8, 8, 8, 8, 8, 8]⟩)) (tm 21) 5,
 cv 23 5 3 (tm 22) 3,
 b2 24 .add 3 (tm 19) (tm 23) 3 3,
 mo 2 (tm 24)])
 .ret))))))))⟩

def lf189 : LFunc := ⟨1, [.tmp 2],
 (.seq (.reg [mo 2 (.const (.string ⟨#[]⟩))])
 (.seq (.reg [mo 3 (tm 0),
 ln 4 (tm 3) 9 3,
 cv 5 3 22 (tm 4) 22,
 oo 6 (.bslice 1 1 [(.int .u64 0)] [(0, 1, (tm 5))]),
 ca 7 190 [(tm 6)],
 mo 8 (tm 0),
 ca 9 222 [(tm 8)],
 cv 10 33 22 (tm 9) 22,
 ca 11 221 [(tm 10), (ki 4)],
 b2 12 .add 9 (tm 7) (tm 11) 9 9,
 mo 13 (tm 0),
 b2 14 .add 9 (tm 12) (tm 13) 9 9,
 mo 2 (tm 14)])
 (.seq (.keep [2])
 .ret)))⟩

def lp190x0 : LCode := .loop (.seq (.keep [0, 3, 4])
 (.seq (.seq (.reg [mo 5 (tm 4),
 mo 6 (tm 0),
 le 7 false (tm 6),
 b2 8 .lss 3 (tm 5) (tm 7) 3 4])
 (.cond (tm 8) .skip
 (.exit 0)))
 (.seq (.keep [0, 3, 4])
 (.seq (.block 1 (.reg [mo 11 (tm 3),
 mo 12 (tm 0),
 mo 13 (tm 4),
 is 14 1 (tm 12) (tm 13),
 l1 15 (tm 14),
 ca 16 223 [(tm 15)],
 b2 17 .add 9 (tm 11) (tm 16) 9 9,
 mo 3 (tm 17)]))
 (.seq (.keep [0, 3, 4])
 (.reg [mo 9 (tm 4),
 b2 10 .add 3 (tm 9) (ki 1) 3 3,
 mo 4 (tm 10)]))))))

def lf190 : LFunc := ⟨1, [.tmp 2],
 (.seq (.reg [mo 2 (.const (.string ⟨#[]⟩))])
 (.seq (.reg [mo 3 (.const (.string ⟨#[]⟩))])
 (.seq (.seq (.reg [mo 4 (ki 0)])
 (.block 0 lp190x0))
 (.seq (.keep [3])
 (.seq (.reg [mo 18 (tm 3),
 mo 2 (tm 18)])
 .ret)))))⟩

def lf191 : LFunc := ⟨1, [.tmp 2],
 (.seq (.reg [oo 1 (.box (tm 0)),
 mo 2 (.const (.string ⟨#[]⟩))])
 (.seq (.seq (.reg [fa 3 0 (tm 1),
 l1 4 (tm 3),
 b2 5 .eql 5 (tm 4) (kb 2) 5 4])
 (.cond (tm 5) (.seq (.dreg [fa 6 1 (tm 1),
 l1 7 (tm 6),
 oo 8 (.bslice 1 1 [(.int .u64 0)] [(0, 1, (tm 7))]),
 ca 9 190 [(tm 8)],
 b2 10 .add 9 (.const (.string ⟨#[2]⟩)) (tm 9) 9 9,
 fa 11 2 (tm 1),
 l1 12 (tm 11),
 oo 13 (.bslice 1 1 [(.int .u8 0)] [(0, 1, (tm 12))]),
 oo 14 (.cvbs (tm 13)),
 b2 15 .add 9 (tm 10) (tm 14) 9 9,
 mo 2 (tm 15)] [(6, 0, 1), (8, 0, 1)])
 (.seq (.keep [2])
 .ret))
 .skip))
 (.seq (.keep [1])
 (.seq (.reg [fa 16 3 (tm 1),
 l2 17 13 (tm 16),
 ca 18 224 [(tm 17)],
 b2 19 .add 9 (.const (.string ⟨#[3]⟩)) (tm 18) 9 9,
 mo 2 (tm 19)])
 .ret))))⟩

def lp192x0 : LCode := .loop (.seq (.keep [0, 1, 5])
 (.seq (.seq (.reg [mo 6 (tm 5),
 mo 7 (tm 0),
 nc 8 (tm 7),
 fa 9 0 (tm 8),
 l1 10 (tm 9),
 le 11 false (tm 10),
 b2 12 .lss 3 (tm 6) (tm 11) 3 4])
 (.cond (tm 12) .skip
 (.exit 0)))
 (.seq (.keep [0, 1, 5])
 (.seq (.block 1 (.seq (.reg [mo 15 (tm 0),
 nc 16 (tm 15),
 fa 17 0 (tm 16),
 l1 18 (tm 17),
 mo 19 (tm 5),
 is 20 5 (tm 18) (tm 19),
 fa 21 0 (tm 20),
 l1 22 (tm 21),
 mo 23 (tm 1),
 b2 24 .eql 9 (tm 22) (tm 23) 9 4])
 (.seq (.keep [0, 1, 5, 24])
 (.cond (tm 24) (.seq (.reg [mo 25 (tm 5),
 mo 4 (tm 25)])
 .ret)
 .skip))))
 (.seq (.keep [0, 1, 5])
 (.reg [mo 13 (tm 5),
 b2 14 .add 3 (tm 13) (ki 1) 3 3,
 mo 5 (tm 14)]))))))

def lf192 : LFunc := ⟨2, [.tmp 4],
 (.seq (.reg [mo 4 (ki 0)])
 (.seq (.seq (.reg [mo 5 (ki 0)])
 (.block 0 lp192x0))
 (.seq (.keep [])
 (.seq (.reg [mo 4 (ki (-1))])
 .ret))))⟩

def lp193x0 : LCode := .loop (.seq (.keep [1, 3, 4])
 (.seq (.seq (.reg [mo 5 (tm 4),
 fa 6 1 (tm 1),
 l1 7 (tm 6),
 le 8 false (tm 7),
 b2 9 .lss 3 (tm 5) (tm 8) 3 4])
 (.cond (tm 9) .skip
 (.exit 0)))
 (.seq (.keep [1, 3, 4])
 (.seq (.block 1 (.reg [mo 12 (tm 3),
 fa 13 1 (tm 1),
 l1 14 (tm 13),
 mo 15 (tm 4),
 is 16 1 (tm 14) (tm 15),
 l1 17 (tm 16),
 b2 18 .add 9 (tm 12) (tm 17) 9 9,
 mo 3 (tm 18)]))
 (.seq (.keep [1, 3, 4])
 (.reg [mo 10 (tm 4),
 b2 11 .add 3 (tm 10) (ki 1) 3 3,
 mo 4 (tm 11)]))))))

def lf193 : LFunc := ⟨1, [.tmp 2],
 (.seq (.reg [oo 1 (.box (tm 0)),
 mo 2 (.const (.string ⟨#[]⟩))])
 (.seq (.reg [mo 3 (.const (.string ⟨#[]⟩))])
 (.seq (.seq (.reg [mo 4 (ki 0)])
 (.block 0 lp193x0))
 (.seq (.keep [1, 3])
 (.seq (.reg [mo 19 (tm 3),
 fa 20 4 (tm 1),
 l1 21 (tm 20),
 b2 22 .add 9 (tm 19) (tm 21) 9 9,
 mo 2 (tm 22)])
 .ret)))))⟩

def lp194x0 : LCode := .loop (.seq (.keep [0, 3])
 (.block 1 (.seq (.reg [mo 11 (tm 0),
 ca 12 195 [(tm 11)],
 mo 10 (tm 12),
 ex 13 (tm 10) 0,
 ex 14 (tm 10) 1,
 ex 15 (tm 10) 2,
 mo 4 (tm 13),
 mo 5 (tm 14),
 mo 6 (tm 15)])
 (.seq (.keep [0, 3, 4, 5, 6])
 (.seq (.seq (.reg [mo 16 (tm 6),
 u1 17 .not 4 (tm 16) 4,
 mo 18 (tm 17),
 ⟨(some 19), (some (18, false)), .mv (tm 0)⟩,
 ⟨(some 20), (some (18, false)), .prim ⟨none, (.call ⟨.builtin .len, #[(tm 19)], #[9]⟩), 3, "", #[], none⟩⟩,
 ⟨(some 21), (some (18, false)), .mv (tm 5)⟩,
 ⟨(some 22), (some (18, false)), .prim ⟨none, (.binOp .add 3 (tm 21) (ki 4) 3), 3, "", #[], none⟩⟩,
 ⟨(some 23), (some (18, false)), .prim ⟨none, (.binOp .lss 3 (tm 20) (tm 22) 3), 4, "", #[], none⟩⟩,
 oo 24 (.pick (tm 18) (kB true) (tm 23)),
 mo 25 (tm 24),
 ⟨(some 26), (some (25, false)), .mv (tm 4)⟩,
 ⟨(some 27), (some (25, false)), .mv (tm 0)⟩,
 ⟨(some 28), (some (25, false)), .prim ⟨none, (.call ⟨.builtin .len, #[(tm 27)], #[9]⟩), 3, "", #[], none⟩⟩,
 ⟨(some 29), (some (25, false)), .mv (tm 5)⟩,
 ⟨(some 30), (some (25, false)), .prim ⟨none, (.binOp .sub 3 (tm 28) (tm 29) 3), 3, "", #[], none⟩⟩,
 ⟨(some 31), (some (25, false)), .prim ⟨none, (.binOp .sub 3 (tm 30) (ki 4) 3), 3, "", #[], none⟩⟩,
 ⟨(some 32), (some (25, false)), .prim ⟨none, (.convert 3 22 (tm 31)), 22, "", #[], none⟩⟩,
 ⟨(some 33), (some (25, false)), .prim ⟨none, (.binOp .gtr 22 (tm 26) (tm 32) 22), 4, "", #[], none⟩⟩,
 oo 34 (.pick (tm 25) (kB true) (tm 33))])
 (.seq (.keep [0, 3, 4, 5, 34])
 (.cond (tm 34) (.seq (.reg [mo 35 (tm 3),
 mo 2 (tm 35)])
 .ret)
 .skip)))
 (.seq (.keep [0, 3, 4, 5])
 (.seq (.reg [mo 37 (tm 0),
 mo 38 (tm 5),
 oo 39 (.slcs (tm 37) (some (tm 38)) none),
 ca 40 225 [(tm 39), (ki 4)],
 mo 36 (tm 40),
 ex 41 (tm 36) 0,
 ex 42 (tm 36) 1,
 mo 7 (tm 41),
 mo 8 (tm 42)])
 (.seq (.keep [0, 3, 4, 5, 7])
 (.seq (.reg [mo 43 (tm 0),
 mo 44 (tm 5),
 b2 45 .add 3 (tm 44) (ki 4) 3 3,
 mo 46 (tm 5),
 b2 47 .add 3 (tm 46) (ki 4) 3 3,
 mo 48 (tm 4),
 cv 49 22 3 (tm 48) 3,
 b2 50 .add 3 (tm 47) (tm 49) 3 3,
 oo 51 (.slcs (tm 43) (some (tm 45)) (some (tm 50))),
 mo 9 (tm 51)])
 (.seq (.keep [0, 3, 4, 5, 7, 9])
 (.seq (.seq (.reg [mo 52 (tm 7),
 mo 53 (tm 9),
 ca 54 222 [(tm 53)],
 cv 55 33 22 (tm 54) 22,
 b2 56 .neq 22 (tm 52) (tm 55) 22 4])
 (.cond (tm 56) (.seq (.reg [mo 57 (tm 3),
 mo 2 (tm 57)])
 .ret)
 .skip))
 (.seq (.keep [0, 3, 4, 5, 9])
 (.seq (.reg [mo 58 (tm 3),
 mo 59 (tm 9),
 oo 60 (.bslice 1 1 [(.string ⟨#[]⟩)] [(0, 1, (tm 59))]),
 ap 61 1 16 (tm 58) (tm 60),
 mo 3 (tm 61)])
 (.reg [mo 62 (tm 0),
 mo 63 (tm 5),
 b2 64 .add 3 (tm 63) (ki 4) 3 3,
 mo 65 (tm 4),
 cv 66 22 3 (tm 65) 3,
 b2 67 .add 3 (tm 64) (tm 66) 3 3,
 oo 68 (.slcs (tm 62) (some (tm 67)) none),
 mo 0 (tm 68)]))))))))))))))

def lf194 : LFunc := ⟨1, [.tmp 2],
 (.seq (.reg [mo 2 (.const (.slice none 0 0))])
 (.seq (.reg [mo 3 (.const (.slice none 0 0))])
 (.block 0 lp194x0)))⟩

def lp195x0 : LCode := .loop (.seq (.keep [0, 5, 6])
 (.seq (.seq (.reg [mo 7 (tm 6),
 mo 8 (tm 0),
 ln 9 (tm 8) 9 3,
 b2 10 .lss 3 (tm 7) (tm 9) 3 4,
 mo 11 (tm 10),
 ⟨(some 12), (some (11, true)), .mv (tm 6)⟩,
 ⟨(some 13), (some (11, true)), .prim ⟨none, (.binOp .lss 3 (tm 12) (ki 10) 3), 4, "", #[], none⟩⟩,
 oo 14 (.pick (tm 11) (tm 13) (kB false))])
 (.seq (.keep [0, 5, 6, 14])
 (.cond (tm 14) .skip
 (.exit 0))))
 (.seq (.keep [0, 5, 6])
 (.seq (.block 1 (.seq (.reg [mo 17 (tm 5),
 b2 18 .mul 22 (ku 128) (tm 17) 22 22,
 mo 19 (tm 0),
 mo 20 (tm 6),
 ix 21 9 (tm 19) (tm 20) 5,
 b2 22 .rem 5 (tm 21) (kb 128) 5 5,
 cv 23 5 22 (tm 22) 22,
 b2 24 .add 22 (tm 18) (tm 23) 22 22,
 mo 5 (tm 24)])
 (.seq (.keep [0, 5, 6])
 (.seq (.reg [mo 25 (tm 0),
 mo 26 (tm 6),
 ix 27 9 (tm 25) (tm 26) 5,
 b2 28 .lss 5 (tm 27) (kb 128) 5 4])
 (.cond (tm 28) (.seq (.seq (.dreg [mo 29 (tm 5),
 ca 30 223 [(tm 29)],
 mo 31 (tm 0),
 mo 32 (tm 6),
 b2 33 .add 3 (tm 32) (ki 1) 3 3,
 oo 34 (.slcs (tm 31) none (some (tm 33))),
 b2 35 .neq 9 (tm 30) (tm 34) 9 4] [])
 (.cond (tm 35) (.seq (.reg [mo 2 (ku 0),
 mo 3 (ki 0),
 mo 4 (kB false)])
 .ret)
 .skip))
 (.seq (.keep [5, 6])
 (.seq (.reg [mo 36 (tm 5),
 mo 37 (tm 6),
 b2 38 .add 3 (tm 37) (ki 1) 3 3,
 mo 2 (tm 36),
 mo 3 (tm 38),
 mo 4 (kB true)])
 .ret)))
 .skip)))))
 (.seq (.keep [0, 5, 6])
 (.reg [mo 15 (tm 6),
 b2 16 .add 3 (tm 15) (ki 1) 3 3,
 mo 6 (tm 16)]))))))

def lf195 : LFunc := ⟨1, [.tmp 2, .tmp 3, .tmp 4],
 (.seq (.reg [mo 2 (ku 0),
 mo 3 (ki 0),
 mo 4 (kB false)])
 (.seq (.reg [mo 5 (ku 0)])
 (.seq (.seq (.reg [mo 6 (ki 0)])
 (.block 0 lp195x0))
 (.seq (.keep [])
 (.seq (.reg [mo 2 (ku 0),
 mo 3 (ki 0),
 mo 4 (kB false)])
 .ret)))))⟩

def lf196 : LFunc := ⟨1, [.ldn 2 16, .tmp 3],
 (.seq (.reg [oo 2 (.alloc [(.int .u8 0), (.int .u64 0), (.int .u8 0), (.int .u64 0), (.int .u64 0), (.int .u8 0), (.int .u8 0), (.int .u8 0), (.int .u8 0), (.int .u8 0), (.int .u8 0), (.int .u8 0), (.int .u8 0), (.int .u8 0), (.int .u8 0), (.string ⟨#[]⟩)]),
 mo 3 (kB false)])
 (.seq (.seq (.reg [mo 10 (tm 0),
 ln 11 (tm 10) 9 3,
 b2 12 .lss 3 (tm 11) (ki 2) 3 4])
 (.cond (tm 12) (.seq (.reg [oo 13 (.build [(.int .u8 0), (.int .u64 0), (.int .u8 0), (.int .u64 0), (.int .u64 0), (.int .u8 0), (.int .u8 0), (.int .u8 0), (.int .u8 0), (.int .u8 0), (.int .u8 0), (.int .u8 0), (.int .u8 0), (.int .u8 0), (.int .u8 0), (.string ⟨#[]⟩)] []),
 sr 16 (tm 2) (tm 13),
 mo 3 (kB false)])
 .ret)
 .skip))
 (.seq (.keep [0, 2])
 (.seq (.reg [mo 14 (tm 0),
 ix 15 9 (tm 14) (ki 0) 5,
 oo 16 (.build [(.int .u8 0), (.int .u64 0), (.int .u8 0), (.int .u64 0), (.int .u64 0), (.int .u8 0), (.int .u8 0), (.int .u8 0), (.int .u8 0), (.int .u8 0), (.int .u8 0), (.int .u8 0), (.int .u8 0), (.int .u8 0), (.int .u8 0), (.string ⟨#[]⟩)] [(0, 1, (tm 15))]),
 oo 4 (.alloc [(.int .u8 0), (.int .u64 0), (.int .u8 0), (.int .u64 0), (.int .u64 0), (.int .u8 0), (.int .u8 0), (.int .u8 0), (.int .u8 0), (.int .u8 0), (.int .u8 0), (.int .u8 0), (.int .u8 0), (.int .u8 0), (.int .u8 0), (.string ⟨#[]⟩)]),
 sr 16 (tm 4) (tm 16)])
 (.seq (.seq (.reg [fa 17 0 (tm 4),
 l1 18 (tm 17),
 b2 19 .eql 5 (tm 18) (kb 2) 5 4])
 (.cond (tm 19) (.seq (.reg [mo 21 (tm 0),
 oo 22 (.slcs (tm 21) (some (ki 1)) none),
 ca 23 195 [(tm 22)],
 mo 20 (tm 23),
 ex 24 (tm 20) 0,
 ex 25 (tm 20) 1,
 ex 26 (tm 20) 2,
 mo 5 (tm 24),
 mo 6 (tm 25),
 mo 7 (tm 26)])
 (.seq (.keep [0, 2, 4, 5, 7])
 (.seq (.reg [mo 27 (tm 5),
 fa 28 1 (tm 4),
 sr 1 (tm 28) (tm 27)])
 (.seq (.reg [mo 29 (tm 0),
 mo 30 (tm 0),
 ln 31 (tm 30) 9 3,
 b2 32 .sub 3 (tm 31) (ki 1) 3 3,
 ix 33 9 (tm 29) (tm 32) 5,
 fa 34 2 (tm 4),
 sr 1 (tm 34) (tm 33)])
 (.seq (.dreg [l2 35 16 (tm 4),
 mo 36 (tm 7),
 mo 37 (tm 36),
 ⟨(some 38), (some (37, true)), .ldn 16 (tm 4)⟩,
 ⟨(some 39), (some (37, true)), .call 191 [(tm 38)]⟩,
 ⟨(some 40), (some (37, true)), .mv (tm 0)⟩,
 ⟨(some 41), (some (37, true)), .prim ⟨none, (.binOp .eql 9 (tm 39) (tm 40) 9), 4, "", #[], none⟩⟩,
 oo 42 (.pick (tm 37) (tm 41) (kB false)),
 sr 16 (tm 2) (tm 35),
 mo 3 (tm 42)] [(0, 0, 1)])
 (.seq (.keep [2, 3])
 .ret))))))
 .skip))
 (.seq (.keep [0, 2, 4])
 (.seq (.reg [mo 44 (tm 0),
 oo 45 (.slcs (tm 44) (some (ki 1)) none),
 ca 46 226 [(tm 45)],
 mo 43 (tm 46),
 ex 47 (tm 43) 0,
 ex 48 (tm 43) 1,
 oo 8 (.alloc [(.int .u64 0), (.int .u64 0), (.int .u8 0), (.int .u8 0), (.int .u8 0), (.int .u8 0), (.int .u8 0), (.int .u8 0), (.int .u8 0), (.int .u8 0), (.int .u8 0), (.int .u8 0), (.string ⟨#[]⟩)]),
 sr 13 (tm 8) (tm 47),
 mo 9 (tm 48)])
 (.seq (.keep [2, 4, 8, 9])
 (.seq (.reg [l2 49 13 (tm 8),
 fa 50 3 (tm 4),
 sr 13 (tm 50) (tm 49)])
 (.seq (.dreg [l2 51 16 (tm 4),
 mo 52 (tm 9),
 mo 53 (tm 52),
 ⟨(some 54), (some (53, true)), .fadr 0 (tm 4)⟩,
 ⟨(some 55), (some (53, true)), .ld1 (tm 54)⟩,
 ⟨(some 56), (some (53, true)), .prim ⟨none, (.binOp .eql 5 (tm 55) (kb 3) 5), 4, "", #[], none⟩⟩,
 oo 57 (.pick (tm 53) (tm 56) (kB false)),
 sr 16 (tm 2) (tm 51),
 mo 3 (tm 57)] [(4, 0, 1)])
 (.seq (.keep [2, 3])
 .ret)))))))))))⟩

def lf197 : LFunc := ⟨4, [],
 (.seq (.reg [oo 4 (.box (tm 0))])
 (.seq (.dreg [l1 5 (tm 1),
 nc 6 (tm 5),
 fa 7 0 (tm 6),
 l1 8 (tm 7),
 l1 9 (tm 2),
 ⟨none, none, .mdel 9 (tm 8) (tm 9)⟩] [])
 (.dreg [l1 10 (tm 1),
 nc 11 (tm 10),
 fa 12 0 (tm 11),
 l1 13 (tm 12),
 l1 14 (tm 3),
 l2 15 4 (tm 4),
 ⟨none, none, .mput 9 (tm 13) (tm 14) (tm 15)⟩] [])))⟩

def lf198 : LFunc := ⟨1, [.tmp 2],
 (.seq (.reg [mo 2 (kB false)])
 (.seq (.reg [mo 3 (tm 0),
 ln 4 (tm 3) 9 3,
 b2 5 .geq 3 (tm 4) (ki 1) 3 4,
 mo 6 (tm 5),
 ⟨(some 7), (some (6, true)), .mv (tm 0)⟩,
 ⟨(some 8), (some (6, true)), .prim ⟨none, (.call ⟨.builtin .len, #[(tm 7)], #[9]⟩), 3, "", #[], none⟩⟩,
 ⟨(some 9), (some (6, true)), .prim ⟨none, (.binOp .leq 3 (tm 8) (ki 32) 3), 4, "", #[], none⟩⟩,
 oo 10 (.pick (tm 6) (tm 9) (kB false)),
 mo 2 (tm 10)])
 (.seq (.keep [2])
 .ret)))⟩

def lf199 : LFunc := ⟨1, [.tmp 2],
 (.seq (.reg [mo 2 (kB false)])
 (.seq (.seq (.reg [mo 3 (tm 0),
 nc 4 (tm 3),
 fa 5 2 (tm 4),
 l1 6 (tm 5),
 b2 7 .eql 3 (tm 6) (ki 1) 3 4])
 (.cond (tm 7) (.reg [mo 8 (tm 0),
 nc 9 (tm 8),
 fa 10 1 (tm 9),
 sr 1 (tm 10) (kB true)])
 .skip))
 (.seq (.keep [0])
 (.seq (.seq (.reg [mo 11 (tm 0),
 nc 12 (tm 11),
 fa 13 2 (tm 12),
 l1 14 (tm 13),
 b2 15 .gtr 3 (tm 14) (ki 0) 3 4])
 (.cond (tm 15) (.reg [mo 16 (tm 0),
 mo 17 (tm 0),
 nc 18 (tm 17),
 fa 19 2 (tm 18),
 l1 20 (tm 19),
 b2 21 .sub 3 (tm 20) (ki 1) 3 3,
 nc 22 (tm 16),
 fa 23 2 (tm 22),
 sr 1 (tm 23) (tm 21)])
 .skip))
 (.seq (.keep [0])
 (.seq (.reg [mo 24 (tm 0),
 nc 25 (tm 24),
 fa 26 1 (tm 25),
 l1 27 (tm 26),
 u1 28 .not 4 (tm 27) 4,
 mo 2 (tm 28)])
 .ret))))))⟩

def lp200x0 : LCode := .loop (.seq (.keep [0, 3, 4, 5, 6])
 (.seq (.seq (.reg [mo 7 (tm 6),
 mo 8 (tm 0),
 nc 9 (tm 8),
 fa 10 0 (tm 9),
 l1 11 (tm 10),
 le 12 false (tm 11),
 b2 13 .lss 3 (tm 7) (tm 12) 3 4])
 (.cond (tm 13) .skip
 (.exit 0)))
 (.seq (.keep [0, 3, 4, 5, 6])
 (.seq (.block 1 (.seq (.seq (.dreg [mo 16 (tm 0),
 nc 17 (tm 16),
 fa 18 0 (tm 17),
 l1 19 (tm 18),
 mo 20 (tm 6),
 is 21 5 (tm 19) (tm 20),
 fa 22 0 (tm 21),
 l1 23 (tm 22),
 fa 24 0 (tm 3),
 l1 25 (tm 24),
 b2 26 .eql 9 (tm 23) (tm 25) 9 4] [])
 (.seq (.keep [0, 3, 4, 5, 6, 26])
 (.cond (tm 26) (.exit 1)
 .skip)))
 (.seq (.keep [0, 3, 4, 5, 6])
 (.seq (.seq (.dreg [mo 27 (tm 5),
 u1 28 .not 4 (tm 27) 4,
 mo 29 (tm 28),
 ⟨(some 30), (some (29, true)), .fadr 0 (tm 3)⟩,
 ⟨(some 31), (some (29, true)), .ld1 (tm 30)⟩,
 ⟨(some 32), (some (29, true)), .mv (tm 0)⟩,
 ⟨(some 33), (some (29, true)), .nilck (tm 32)⟩,
 ⟨(some 34), (some (29, true)), .fadr 0 (tm 33)⟩,
 ⟨(some 35), (some (29, true)), .ld1 (tm 34)⟩,
 ⟨(some 36), (some (29, true)), .mv (tm 6)⟩,
 ⟨(some 37), (some (29, true)), .iadrs 5 (tm 35) (tm 36)⟩,
 ⟨(some 38), (some (29, true)), .fadr 0 (tm 37)⟩,
 ⟨(some 39), (some (29, true)), .ld1 (tm 38)⟩,
 ⟨(some 40), (some (29, true)), .prim ⟨none, (.binOp .lss 9 (tm 31) (tm 39) 9), 4, "", #[], none⟩⟩,
 oo 41 (.pick (tm 29) (tm 40) (kB false))] [])
 (.seq (.keep [0, 3, 4, 5, 6, 41])
 (.cond (tm 41) (.seq (.reg [mo 42 (tm 4),
 l2 43 5 (tm 3),
 oo 44 (.bslice 5 1 [(.string ⟨#[]⟩), (.slice none 0 0), (.int .i64 0), (.bool false), (.string ⟨#[]⟩)] [(0, 5, (tm 43))]),
 ap 45 5 72 (tm 42) (tm 44),
 mo 4 (tm 45)])
 (.reg [mo 5 (kB true)]))
 .skip)))
 (.seq (.keep [0, 3, 4, 5, 6])
 (.reg [mo 46 (tm 4),
 mo 47 (tm 0),
 nc 48 (tm 47),
 fa 49 0 (tm 48),
 l1 50 (tm 49),
 mo 51 (tm 6),
 is 52 5 (tm 50) (tm 51),
 l2 53 5 (tm 52),
 oo 54 (.bslice 5 1 [(.string ⟨#[]⟩), (.slice none 0 0), (.int .i64 0), (.bool false), (.string ⟨#[]⟩)] [(0, 5, (tm 53))]),
 ap 55 5 72 (tm 46) (tm 54),
 mo 4 (tm 55)]))))))
 (.seq (.keep [0, 3, 4, 5, 6])
 (.reg [mo 14 (tm 6),
 b2 15 .add 3 (tm 14) (ki 1) 3 3,
 mo 6 (tm 15)]))))))

def lf200 : LFunc := ⟨2, [],
 (.seq (.reg [oo 3 (.box (tm 1))])
 (.seq (.reg [mo 4 (.const (.slice none 0 0))])
 (.seq (.reg [mo 5 (kB false)])
 (.seq (.seq (.reg [mo 6 (ki 0)])
 (.block 0 lp200x0))
 (.seq (.keep [0, 3, 4, 5])
 (.seq (.seq (.reg [mo 56 (tm 5),
 u1 57 .not 4 (tm 56) 4])
 (.cond (tm 57) (.reg [mo 58 (tm 4),
 l2 59 5 (tm 3),
 oo 60 (.bslice 5 1 [(.string ⟨#[]⟩), (.slice none 0 0), (.int .i64 0), (.bool false), (.string ⟨#[]⟩)] [(0, 5, (tm 59))]),
 ap 61 5 72 (tm 58) (tm 60),
 mo 4 (tm 61)])
 .skip))
 (.seq (.keep [0, 4])
 (.reg [mo 62 (tm 0),
 mo 63 (tm 4),
 nc 64 (tm 62),
 fa 65 0 (tm 64),
 sr 1 (tm 65) (tm 63)]))))))))⟩

def lp201x0 : LCode := .loop (.seq (.keep [0, 1, 4, 5])
 (.seq (.seq (.reg [mo 6 (tm 5),
 mo 7 (tm 0),
 nc 8 (tm 7),
 fa 9 0 (tm 8),
 l1 10 (tm 9),
 le 11 false (tm 10),
 b2 12 .lss 3 (tm 6) (tm 11) 3 4])
 (.cond (tm 12) .skip
 (.exit 0)))
 (.seq (.keep [0, 1, 4, 5])
 (.seq (.block 1 (.seq (.reg [mo 15 (tm 0),
 nc 16 (tm 15),
 fa 17 0 (tm 16),
 l1 18 (tm 17),
 mo 19 (tm 5),
 is 20 5 (tm 18) (tm 19),
 fa 21 0 (tm 20),
 l1 22 (tm 21),
 mo 23 (tm 1),
 b2 24 .neq 9 (tm 22) (tm 23) 9 4])
 (.seq (.keep [0, 1, 4, 5, 24])
 (.cond (tm 24) (.reg [mo 25 (tm 4),
 mo 26 (tm 0),
 nc 27 (tm 26),
 fa 28 0 (tm 27),
 l1 29 (tm 28),
 mo 30 (tm 5),
 is 31 5 (tm 29) (tm 30),
 l2 32 5 (tm 31),
 oo 33 (.bslice 5 1 [(.string ⟨#[]⟩), (.slice none 0 0), (.int .i64 0), (.bool false), (.string ⟨#[]⟩)] [(0, 5, (tm 32))]),
 ap 34 5 72 (tm 25) (tm 33),
 mo 4 (tm 34)])
 .skip))))
 (.seq (.keep [0, 1, 4, 5])
 (.reg [mo 13 (tm 5),
 b2 14 .add 3 (tm 13) (ki 1) 3 3,
 mo 5 (tm 14)]))))))

def lf201 : LFunc := ⟨2, [],
 (.seq (.reg [mo 4 (.const (.slice none 0 0))])
 (.seq (.seq (.reg [mo 5 (ki 0)])
 (.block 0 lp201x0))
 (.seq (.keep [0, 4])
 (.reg [mo 35 (tm 0),
 mo 36 (tm 4),
 nc 37 (tm 35),
 fa 38 0 (tm 37),
 sr 1 (tm 38) (tm 36)]))))⟩

def lf202 : LFunc := ⟨3, [.ldn 6 5],
 (.seq (.reg [oo 3 (.box (tm 0)),
 oo 4 (.box (tm 1)),
 oo 6 (.alloc [(.string ⟨#[]⟩), (.slice none 0 0), (.int .i64 0), (.bool false), (.string ⟨#[]⟩)])])
 (.seq (.reg [fa 10 2 (tm 3),
 l1 11 (tm 10),
 mo 7 (tm 11)])
 (.seq (.seq (.reg [mo 12 (tm 2),
 fa 13 0 (tm 4),
 l1 14 (tm 13),
 le 15 false (tm 14),
 b2 16 .lss 3 (tm 12) (tm 15) 3 4,
 mo 17 (tm 16),
 ⟨(some 18), (some (17, true)), .fadr 0 (tm 4)⟩,
 ⟨(some 19), (some (17, true)), .ld1 (tm 18)⟩,
 ⟨(some 20), (some (17, true)), .mv (tm 2)⟩,
 ⟨(some 21), (some (17, true)), .iadrs 1 (tm 19) (tm 20)⟩,
 ⟨(some 22), (some (17, true)), .ld1 (tm 21)⟩,
 ⟨(some 23), (some (17, true)), .prim ⟨none, (.binOp .gtr 3 (tm 22) (ki 0) 3), 4, "", #[], none⟩⟩,
 oo 24 (.pick (tm 17) (tm 23) (kB false))])
 (.seq (.keep [2, 3, 4, 6, 7, 24])
 (.cond (tm 24) (.seq (.reg [fa 25 1 (tm 3),
 l1 26 (tm 25),
 le 27 false (tm 26),
 mo 7 (tm 27)])
 (.seq (.dreg [fa 28 0 (tm 4),
 l1 29 (tm 28),
 mo 30 (tm 2),
 is 31 1 (tm 29) (tm 30),
 l1 32 (tm 31),
 fa 33 1 (tm 3),
 l1 34 (tm 33),
 le 35 false (tm 34),
 fa 36 2 (tm 3),
 l1 37 (tm 36),
 b2 38 .sub 3 (tm 35) (tm 37) 3 3,
 b2 39 .lss 3 (tm 32) (tm 38) 3 4] [])
 (.seq (.keep [2, 3, 4, 6, 7, 39])
 (.cond (tm 39) (.dreg [fa 40 2 (tm 3),
 l1 41 (tm 40),
 fa 42 0 (tm 4),
 l1 43 (tm 42),
 mo 44 (tm 2),
 is 45 1 (tm 43) (tm 44),
 l1 46 (tm 45),
 b2 47 .add 3 (tm 41) (tm 46) 3 3,
 mo 7 (tm 47)] [])
 .skip))))
 .skip)))
 (.seq (.keep [2, 3, 4, 6, 7])
 (.seq (.seq (.reg [mo 48 (tm 7),
 fa 49 1 (tm 3),
 l1 50 (tm 49),
 le 51 false (tm 50),
 b2 52 .lss 3 (tm 48) (tm 51) 3 4])
 (.cond (tm 52) (.reg [fa 53 3 (tm 3),
 sr 1 (tm 53) (kB true)])
 .skip))
 (.seq (.keep [2, 3, 4, 6, 7])
 (.seq (.seq (.reg [mo 54 (tm 7),
 fa 55 1 (tm 3),
 l1 56 (tm 55),
 le 57 false (tm 56),
 b2 58 .lss 3 (tm 54) (tm 57) 3 4,
 mo 59 (tm 58),
 ⟨(some 60), (some (59, true)), .mv (tm 2)⟩,
 ⟨(some 61), (some (59, true)), .fadr 1 (tm 4)⟩,
 ⟨(some 62), (some (59, true)), .ld1 (tm 61)⟩,
 ⟨(some 63), (some (59, true)), .len false (tm 62)⟩,
 ⟨(some 64), (some (59, true)), .prim ⟨none, (.binOp .lss 3 (tm 60) (tm 63) 3), 4, "", #[], none⟩⟩,
 oo 65 (.pick (tm 59) (tm 64) (kB false))])
 (.seq (.keep [2, 3, 4, 6, 7, 65])
 (.cond (tm 65) (.seq (.reg [fa 66 1 (tm 3),
 l1 67 (tm 66),
 mo 68 (tm 7),
 is 69 1 (tm 67) (tm 68),
 l1 70 (tm 69),
 ln 71 (tm 70) 9 3,
 mo 8 (tm 71)])
 (.seq (.reg [fa 72 1 (tm 4),
 l1 73 (tm 72),
 mo 74 (tm 2),
 is 75 1 (tm 73) (tm 74),
 l1 76 (tm 75),
 mo 77 (tm 8),
 b2 78 .rem 3 (tm 76) (tm 77) 3 3,
 mo 9 (tm 78)])
 (.seq (.keep [3, 6, 7, 8, 9])
 (.seq (.seq (.reg [mo 79 (tm 9),
 b2 80 .lss 3 (tm 79) (ki 0) 3 4])
 (.cond (tm 80) (.reg [mo 81 (tm 9),
 mo 82 (tm 8),
 b2 83 .add 3 (tm 81) (tm 82) 3 3,
 mo 9 (tm 83)])
 .skip))
 (.seq (.keep [3, 6, 7, 9])
 (.reg [fa 84 1 (tm 3),
 l1 85 (tm 84),
 mo 86 (tm 7),
 is 87 1 (tm 85) (tm 86),
 l1 88 (tm 87),
 mo 89 (tm 9),
 oo 90 (.slcs (tm 88) none (some (tm 89))),
 fa 91 4 (tm 3),
 sr 1 (tm 91) (tm 90)]))))))
 .skip)))
 (.seq (.keep [3, 6, 7])
 (.seq (.reg [oo 92 (.bslice 1 0 [(.string ⟨#[]⟩)] []),
 fa 93 1 (tm 3),
 l1 94 (tm 93),
 mo 95 (tm 7),
 oo 96 (.slcl 1 (tm 94) none (some (tm 95)) none),
 ap 97 1 16 (tm 92) (tm 96),
 fa 98 1 (tm 3),
 sr 1 (tm 98) (tm 97)])
 (.seq (.keep [3, 6, 7])
 (.seq (.reg [mo 99 (tm 7),
 fa 100 2 (tm 3),
 sr 1 (tm 100) (tm 99)])
 (.seq (.reg [l2 101 5 (tm 3),
 sr 5 (tm 6) (tm 101)])
 .ret))))))))))))⟩

def lp205x0 : LCode := .loop (.seq (.keep [3, 6, 7, 8])
 (.seq (.reg [b2 9 .lss 3 (tm 8) (tm 7) 3 0])
 (.seq (.cond (tm 9) .skip
 (.exit 0))
 (.seq (.keep [3, 6, 7, 8])
 (.seq (.block 1 (.seq (.reg [is 10 1 (tm 6) (tm 8),
 l1 11 (tm 10),
 mo 5 (tm 11)])
 (.reg [mo 12 (tm 3),
 mo 13 (tm 5),
 ln 14 (tm 13) 9 3,
 cv 15 3 22 (tm 14) 22,
 oo 16 (.bslice 1 1 [(.int .u64 0)] [(0, 1, (tm 15))]),
 ca 17 118 [(tm 16)],
 mo 18 (tm 5),
 b2 19 .add 9 (tm 17) (tm 18) 9 9,
 b2 20 .add 9 (tm 12) (tm 19) 9 9,
 mo 3 (tm 20)])))
 (.seq (.keep [3, 6, 7, 8])
 (.reg [b2 21 .add 3 (tm 8) (ki 1) 3 3,
 mo 8 (tm 21)])))))))

def lf205 : LFunc := ⟨1, [.tmp 2],
 (.seq (.reg [mo 2 (.const (.string ⟨#[]⟩))])
 (.seq (.reg [mo 3 (.const (.string ⟨#[]⟩))])
 (.seq (.seq (.reg [mo 6 (tm 0),
 le 7 false (tm 6),
 mo 8 (ki 0)])
 (.block 0 lp205x0))
 (.seq (.keep [3])
 (.seq (.reg [mo 22 (tm 3),
 mo 2 (tm 22)])
 .ret)))))⟩

def lp215x0 : LCode := .loop (.seq (.keep [0, 2, 3, 8])
 (.block 1 (.seq (.reg [mo 11 (tm 8),
 b2 12 .mul 3 (ki 2) (tm 11) 3 3,
 b2 13 .add 3 (tm 12) (ki 1) 3 3,
 mo 9 (tm 13)])
 (.seq (.seq (.reg [mo 14 (tm 9),
 mo 15 (tm 2),
 b2 16 .geq 3 (tm 14) (tm 15) 3 4])
 (.cond (tm 16) (.exit 0)
 .skip))
 (.seq (.keep [0, 2, 3, 8, 9])
 (.seq (.seq (.dreg [mo 17 (tm 9),
 b2 18 .add 3 (tm 17) (ki 1) 3 3,
 mo 19 (tm 2),
 b2 20 .lss 3 (tm 18) (tm 19) 3 4,
 mo 21 (tm 20),
 ⟨(some 22), (some (21, true)), .mv (tm 0)⟩,
 ⟨(some 23), (some (21, true)), .mv (tm 3)⟩,
 ⟨(some 24), (some (21, true)), .mv (tm 9)⟩,
 ⟨(some 25), (some (21, true)), .prim ⟨none, (.binOp .add 3 (tm 23) (tm 24) 3), 3, "", #[], none⟩⟩,
 ⟨(some 26), (some (21, true)), .iadrs 1 (tm 22) (tm 25)⟩,
 ⟨(some 27), (some (21, true)), .ld1 (tm 26)⟩,
 ⟨(some 28), (some (21, true)), .mv (tm 0)⟩,
 ⟨(some 29), (some (21, true)), .mv (tm 3)⟩,
 ⟨(some 30), (some (21, true)), .mv (tm 9)⟩,
 ⟨(some 31), (some (21, true)), .prim ⟨none, (.binOp .add 3 (tm 29) (tm 30) 3), 3, "", #[], none⟩⟩,
 ⟨(some 32), (some (21, true)), .prim ⟨none, (.binOp .add 3 (tm 31) (ki 1) 3), 3, "", #[], none⟩⟩,
 ⟨(some 33), (some (21, true)), .iadrs 1 (tm 28) (tm 32)⟩,
 ⟨(some 34), (some (21, true)), .ld1 (tm 33)⟩,
 ⟨(some 35), (some (21, true)), .call 184 [(tm 27), (tm 34)]⟩,
 oo 36 (.pick (tm 21) (tm 35) (kB false))] [])
 (.seq (.keep [0, 2, 3, 8, 9, 36])
 (.cond (tm 36) (.reg [mo 37 (tm 9),
 b2 38 .add 3 (tm 37) (ki 1) 3 3,
 mo 9 (tm 38)])
 .skip)))
 (.seq (.keep [0, 2, 3, 8, 9])
 (.seq (.seq (.dreg [mo 39 (tm 0),
 mo 40 (tm 3),
 mo 41 (tm 8),
 b2 42 .add 3 (tm 40) (tm 41) 3 3,
 is 43 1 (tm 39) (tm 42),
 l1 44 (tm 43),
 mo 45 (tm 0),
 mo 46 (tm 3),
 mo 47 (tm 9),
 b2 48 .add 3 (tm 46) (tm 47) 3 3,
 is 49 1 (tm 45) (tm 48),
 l1 50 (tm 49),
 ca 51 184 [(tm 44), (tm 50)],
 u1 52 .not 4 (tm 51) 4] [])
 (.seq (.keep [0, 2, 3, 8, 9, 52])
 (.cond (tm 52) .ret
 .skip)))
 (.seq (.keep [0, 2, 3, 8, 9])
 (.seq (.dreg [mo 53 (tm 0),
 mo 54 (tm 3),
 mo 55 (tm 8),
 b2 56 .add 3 (tm 54) (tm 55) 3 3,
 mo 57 (tm 0),
 mo 58 (tm 3),
 mo 59 (tm 9),
 b2 60 .add 3 (tm 58) (tm 59) 3 3,
 mo 61 (tm 0),
 mo 62 (tm 3),
 mo 63 (tm 9),
 b2 64 .add 3 (tm 62) (tm 63) 3 3,
 is 65 1 (tm 61) (tm 64),
 l1 66 (tm 65),
 mo 67 (tm 0),
 mo 68 (tm 3),
 mo 69 (tm 8),
 b2 70 .add 3 (tm 68) (tm 69) 3 3,
 is 71 1 (tm 67) (tm 70),
 l1 72 (tm 71),
 is 73 1 (tm 53) (tm 56),
 sr 1 (tm 73) (tm 66),
 is 74 1 (tm 57) (tm 60),
 sr 1 (tm 74) (tm 72)] [])
 (.seq (.keep [0, 2, 3, 9])
 (.reg [mo 75 (tm 9),
 mo 8 (tm 75)]))))))))))))

def lf215 : LFunc := ⟨4, [],
 (.seq (.reg [mo 10 (tm 1),
 mo 8 (tm 10)])
 (.block 0 lp215x0))⟩

def lf216 : LFunc := ⟨1, [.tmp 2],
 (.seq (.reg [mo 2 (ku 0)])
 (.seq (.reg [mo 3 (tm 0),
 cv 4 3 135 (tm 3) 135,
 ca 5 134 [(tm 4)],
 b2 6 .shl 135 (ku 1) (tm 5) 3 135,
 mo 2 (tm 6)])
 .ret))⟩

def lf217 : LFunc := ⟨1, [.tmp 2],
 (.seq (.reg [mo 2 (ku 0)])
 (.seq (.dreg [mo 3 (tm 0),
 nc 4 (tm 3),
 l1 5 (tm 4),
 mo 6 (tm 0),
 nc 7 (tm 6),
 l1 8 (tm 7),
 b2 9 .shl 277 (tm 8) (ku 13) 135 277,
 b2 10 .xor 277 (tm 5) (tm 9) 277 277,
 nc 11 (tm 3),
 sr 1 (tm 11) (tm 10)] [])
 (.seq (.keep [0])
 (.seq (.dreg [mo 12 (tm 0),
 nc 13 (tm 12),
 l1 14 (tm 13),
 mo 15 (tm 0),
 nc 16 (tm 15),
 l1 17 (tm 16),
 b2 18 .shr 277 (tm 17) (ku 7) 135 277,
 b2 19 .xor 277 (tm 14) (tm 18) 277 277,
 nc 20 (tm 12),
 sr 1 (tm 20) (tm 19)] [])
 (.seq (.keep [0])
 (.seq (.dreg [mo 21 (tm 0),
 nc 22 (tm 21),
 l1 23 (tm 22),
 mo 24 (tm 0),
 nc 25 (tm 24),
 l1 26 (tm 25),
 b2 27 .shl 277 (tm 26) (ku 17) 135 277,
 b2 28 .xor 277 (tm 23) (tm 27) 277 277,
 nc 29 (tm 21),
 sr 1 (tm 29) (tm 28)] [])
 (.seq (.keep [0])
 (.seq (.reg [mo 30 (tm 0),
 nc 31 (tm 30),
 l1 32 (tm 31),
 mo 2 (tm 32)])
 .ret))))))))⟩

def lf218 : LFunc := ⟨3, [.tmp 6],
 (.seq (.reg [mo 6 (ki 0)])
 (.seq (.reg [mo 7 (tm 0),
 mo 8 (tm 1),
 b2 9 .sub 3 (tm 8) (ki 1) 3 3,
 mo 10 (tm 1),
 mo 11 (tm 1),
 b2 12 .add 3 (tm 11) (ki 1) 3 3,
 mo 13 (tm 2),
 ca 14 219 [(tm 7), (tm 9), (tm 10), (tm 12), (tm 13)],
 mo 6 (tm 14)])
 (.seq (.keep [6])
 .ret)))⟩

def lf219 : LFunc := ⟨5, [.tmp 10],
 (.seq (.reg [mo 10 (ki 0)])
 (.seq (.reg [mo 12 (tm 0),
 mo 13 (tm 1),
 mo 14 (tm 2),
 mo 15 (tm 4),
 ca 16 239 [(tm 12), (tm 13), (tm 14), (tm 15)],
 mo 11 (tm 16),
 ex 17 (tm 11) 0,
 ex 18 (tm 11) 1,
 mo 1 (tm 17),
 mo 2 (tm 18)])
 (.seq (.keep [0, 1, 2, 3, 4])
 (.seq (.reg [mo 20 (tm 0),
 mo 21 (tm 2),
 mo 22 (tm 3),
 mo 23 (tm 4),
 ca 24 239 [(tm 20), (tm 21), (tm 22), (tm 23)],
 mo 19 (tm 24),
 ex 25 (tm 19) 0,
 ex 26 (tm 19) 1,
 mo 2 (tm 25),
 mo 3 (tm 26)])
 (.seq (.keep [0, 1, 2, 4])
 (.seq (.reg [mo 28 (tm 0),
 mo 29 (tm 1),
 mo 30 (tm 2),
 mo 31 (tm 4),
 ca 32 239 [(tm 28), (tm 29), (tm 30), (tm 31)],
 mo 27 (tm 32),
 ex 33 (tm 27) 0,
 ex 34 (tm 27) 1,
 mo 1 (tm 33),
 mo 2 (tm 34)])
 (.seq (.keep [2])
 (.seq (.reg [mo 35 (tm 2),
 mo 10 (tm 35)])
 .ret))))))))⟩

def lf220 : LFunc := ⟨1, [.tmp 2],
 (.seq (.reg [mo 2 (kB false)])
 (.seq (.reg [mo 3 (tm 0),
 mo 4 (tm 0),
 b2 5 .neq 22 (tm 3) (tm 4) 22 4,
 mo 2 (tm 5)])
 .ret))⟩

def lp221x0 : LCode := .loop (.seq (.keep [0, 1, 5, 6])
 (.seq (.seq (.reg [mo 7 (tm 6),
 mo 8 (tm 1),
 b2 9 .lss 3 (tm 7) (tm 8) 3 4,
 mo 10 (tm 9),
 ⟨(some 11), (some (10, true)), .mv (tm 1)⟩,
 ⟨(some 12), (some (10, true)), .prim ⟨none, (.binOp .leq 3 (tm 11) (ki 8) 3), 4, "", #[], none⟩⟩,
 oo 13 (.pick (tm 10) (tm 12) (kB false))])
 (.cond (tm 13) .skip
 (.exit 0)))
 (.seq (.keep [0, 1, 5, 6])
 (.seq (.block 1 (.seq (.reg [mo 16 (tm 0),
 b2 17 .rem 22 (tm 16) (ku 256) 22 22,
 cv 18 22 5 (tm 17) 5,
 oo 19 (.bslice 1 1 [(.int .u8 0)] [(0, 1, (tm 18))]),
 oo 20 (.cvbs (tm 19)),
 mo 21 (tm 5),
 b2 22 .add 9 (tm 20) (tm 21) 9 9,
 mo 5 (tm 22)])
 (.seq (.keep [0, 1, 5, 6])
 (.reg [mo 23 (tm 0),
 b2 24 .quo 22 (tm 23) (ku 256) 22 22,
 mo 0 (tm 24)]))))
 (.seq (.keep [0, 1, 5, 6])
 (.reg [mo 14 (tm 6),
 b2 15 .add 3 (tm 14) (ki 1) 3 3,
 mo 6 (tm 15)]))))))

def lf221 : LFunc := ⟨2, [.tmp 4],
 (.seq (.reg [mo 4 (.const (.string ⟨#[]⟩))])
 (.seq (.reg [mo 5 (.const (.string ⟨#[]⟩))])
 (.seq (.seq (.reg [mo 6 (ki 0)])
 (.block 0 lp221x0))
 (.seq (.keep [5])
 (.seq (.reg [mo 25 (tm 5),
 mo 4 (tm 25)])
 .ret)))))⟩

def lp222x0 : LCode := .loop (.seq (.keep [0, 3, 4, 5])
 (.seq (.seq (.reg [mo 19 (tm 5),
 b2 20 .lss 3 (tm 19) (ki 8) 3 4])
 (.cond (tm 20) .skip
 (.exit 2)))
 (.seq (.keep [0, 3, 4, 5])
 (.seq (.block 3 (.seq (.reg [mo 23 (tm 3),
 b2 24 .rem 33 (tm 23) (.const (.int .u32 2)) 33 33,
 mo 6 (tm 24)])
 (.seq (.reg [mo 25 (tm 3),
 b2 26 .quo 33 (tm 25) (.const (.int .u32 2)) 33 33,
 mo 3 (tm 26)])
 (.seq (.reg [mo 27 (tm 6),
 b2 28 .eql 33 (tm 27) (.const (.int .u32 1)) 33 4])
 (.cond (tm 28) (.reg [mo 29 (tm 3),
 b2 30 .xor 33 (tm 29) (.const (.int .u32 2197175160)) 33 33,
 mo 3 (tm 30)])
 .skip)))))
 (.seq (.keep [0, 3, 4, 5])
 (.reg [mo 21 (tm 5),
 b2 22 .add 3 (tm 21) (ki 1) 3 3,
 mo 5 (tm 22)]))))))

def lp222x1 : LCode := .loop (.seq (.keep [0, 3, 4])
 (.seq (.seq (.reg [mo 7 (tm 4),
 mo 8 (tm 0),
 ln 9 (tm 8) 9 3,
 b2 10 .lss 3 (tm 7) (tm 9) 3 4])
 (.cond (tm 10) .skip
 (.exit 0)))
 (.seq (.keep [0, 3, 4])
 (.seq (.block 1 (.seq (.reg [mo 13 (tm 3),
 mo 14 (tm 0),
 mo 15 (tm 4),
 ix 16 9 (tm 14) (tm 15) 5,
 cv 17 5 33 (tm 16) 33,
 b2 18 .xor 33 (tm 13) (tm 17) 33 33,
 mo 3 (tm 18)])
 (.seq (.reg [mo 5 (ki 0)])
 (.block 2 lp222x0))))
 (.seq (.keep [0, 3, 4])
 (.reg [mo 11 (tm 4),
 b2 12 .add 3 (tm 11) (ki 1) 3 3,
 mo 4 (tm 12)]))))))

def lf222 : LFunc := ⟨1, [.tmp 2],
 (.seq (.reg [mo 2 (.const (.int .u32 0))])
 (.seq (.reg [mo 3 (.const (.int .u32 4294967295))])
 (.seq (.seq (.reg [mo 4 (ki 0)])
 (.block 0 lp222x1))
 (.seq (.keep [3])
 (.seq (.reg [mo 31 (tm 3),
 b2 32 .xor 33 (tm 31) (.const (.int .u32 4294967295)) 33 33,
 mo 2 (tm 32)])
 .ret)))))⟩

def lp223x0 : LCode := .loop (.seq (.keep [0, 3])
 (.seq (.seq (.reg [mo 9 (tm 0),
 b2 10 .gtr 22 (tm 9) (ku 127) 22 4])
 (.cond (tm 10) .skip
 (.exit 0)))
 (.seq (.keep [0, 3])
 (.block 1 (.seq (.reg [mo 11 (tm 0),
 b2 12 .quo 22 (tm 11) (ku 128) 22 22,
 mo 0 (tm 12)])
 (.reg [mo 13 (tm 0),
 b2 14 .rem 22 (tm 13) (ku 128) 22 22,
 b2 15 .add 22 (ku 128) (tm 14) 22 22,
 cv 16 22 5 (tm 15) 5,
 oo 17 (.bslice 1 1 [(.int .u8 0)] [(0, 1, (tm 16))]),
 oo 18 (.cvbs (tm 17)),
 mo 19 (tm 3),
 b2 20 .add 9 (tm 18) (tm 19) 9 9,
 mo 3 (tm 20)]))))))

def lf223 : LFunc := ⟨1, [.tmp 2],
 (.seq (.reg [mo 2 (.const (.string ⟨#[]⟩))])
 (.seq (.reg [mo 4 (tm 0),
 b2 5 .rem 22 (tm 4) (ku 128) 22 22,
 cv 6 22 5 (tm 5) 5,
 oo 7 (.bslice 1 1 [(.int .u8 0)] [(0, 1, (tm 6))]),
 oo 8 (.cvbs (tm 7)),
 mo 3 (tm 8)])
 (.seq (.block 0 lp223x0)
 (.seq (.keep [3])
 (.seq (.reg [mo 21 (tm 3),
 mo 2 (tm 21)])
 .ret)))))⟩

def lp224x0 : LCode := .loop (.seq (.keep [1, 3, 4])
 (.seq (.seq (.reg [mo 39 (tm 4),
 b2 40 .lss 3 (tm 39) (ki 8) 3 4])
 (.cond (tm 40) .skip
 (.exit 1)))
 (.seq (.keep [1, 3, 4])
 (.seq (.block 2 (.reg [mo 43 (tm 3),
 mo 44 (tm 4),
 fa 45 4 (tm 1),
 oo 46 (.iadra 8 1 (tm 45) (tm 44)),
 l1 47 (tm 46),
 oo 48 (.bslice 1 1 [(.int .u8 0)] [(0, 1, (tm 47))]),
 oo 49 (.cvbs (tm 48)),
 b2 50 .add 9 (tm 43) (tm 49) 9 9,
 mo 3 (tm 50)]))
 (.seq (.keep [1, 3, 4])
 (.reg [mo 41 (tm 4),
 b2 42 .add 3 (tm 41) (ki 1) 3 3,
 mo 4 (tm 42)]))))))

def lf224 : LFunc := ⟨1, [.tmp 2],
 (.seq (.reg [oo 1 (.box (tm 0)),
 mo 2 (.const (.string ⟨#[]⟩))])
 (.seq (.seq (.reg [l2 5 13 (tm 1),
 ca 6 114 [(tm 5)],
 u1 7 .not 4 (tm 6) 4])
 (.cond (tm 7) (.seq (.reg [mo 2 (.const (.string ⟨#[]⟩))])
 .ret)
 .skip))
 (.seq (.keep [1])
 (.seq (.dreg [fa 8 2 (tm 1),
 l1 9 (tm 8),
 oo 10 (.bslice 1 1 [(.int .u8 0)] [(0, 1, (tm 9))]),
 oo 11 (.cvbs (tm 10)),
 fa 12 0 (tm 1),
 l1 13 (tm 12),
 ca 14 223 [(tm 13)],
 b2 15 .add 9 (tm 11) (tm 14) 9 9,
 fa 16 1 (tm 1),
 l1 17 (tm 16),
 ca 18 223 [(tm 17)],
 b2 19 .add 9 (tm 15) (tm 18) 9 9,
 mo 3 (tm 19)] [(1, 0, 2), (3, 0, 2), (9, 0, 1)])
 (.seq (.keep [1, 3])
 (.seq (.seq (.reg [fa 20 2 (tm 1),
 l1 21 (tm 20)])
 (.block 0 (.seq (.seq (.reg [b2 23 .eql 5 (tm 21) (kb 2) 5 4,
 mo 22 (tm 23)])
 (.cond (tm 22) .skip
 (.reg [b2 24 .eql 5 (tm 21) (kb 4) 5 4,
 mo 22 (tm 24)])))
 (.seq (.keep [1, 3, 21, 22])
 (.cond (tm 22) (.reg [mo 25 (tm 3),
 fa 26 12 (tm 1),
 l1 27 (tm 26),
 oo 28 (.bslice 1 1 [(.string ⟨#[]⟩)] [(0, 1, (tm 27))]),
 ca 29 240 [(tm 28)],
 b2 30 .add 9 (tm 25) (tm 29) 9 9,
 mo 3 (tm 30)])
 (.seq (.reg [b2 32 .eql 5 (tm 21) (kb 3) 5 4,
 mo 31 (tm 32)])
 (.cond (tm 31) (.seq (.reg [mo 33 (tm 3),
 fa 34 3 (tm 1),
 l1 35 (tm 34),
 oo 36 (.bslice 1 1 [(.int .u8 0)] [(0, 1, (tm 35))]),
 oo 37 (.cvbs (tm 36)),
 b2 38 .add 9 (tm 33) (tm 37) 9 9,
 mo 3 (tm 38)])
 (.seq (.seq (.reg [mo 4 (ki 0)])
 (.block 1 lp224x0))
 (.seq (.keep [1, 3])
 (.reg [mo 51 (tm 3),
 fa 52 12 (tm 1),
 l1 53 (tm 52),
 oo 54 (.bslice 1 1 [(.string ⟨#[]⟩)] [(0, 1, (tm 53))]),
 ca 55 240 [(tm 54)],
 b2 56 .add 9 (tm 51) (tm 55) 9 9,
 mo 3 (tm 56)]))))
 .skip)))))))
 (.seq (.keep [3])
 (.seq (.reg [mo 57 (tm 3),
 mo 2 (tm 57)])
 .ret))))))))⟩

def lp225x0 : LCode := .loop (.seq (.keep [0, 1, 6, 7])
 (.seq (.seq (.reg [mo 20 (tm 7),
 mo 21 (tm 1),
 b2 22 .lss 3 (tm 20) (tm 21) 3 4])
 (.cond (tm 22) .skip
 (.exit 0)))
 (.seq (.keep [0, 1, 6, 7])
 (.seq (.block 1 (.reg [mo 25 (tm 6),
 b2 26 .mul 22 (ku 256) (tm 25) 22 22,
 mo 27 (tm 0),
 mo 28 (tm 7),
 ix 29 9 (tm 27) (tm 28) 5,
 cv 30 5 22 (tm 29) 22,
 b2 31 .add 22 (tm 26) (tm 30) 22 22,
 mo 6 (tm 31)]))
 (.seq (.keep [0, 1, 6, 7])
 (.reg [mo 23 (tm 7),
 b2 24 .add 3 (tm 23) (ki 1) 3 3,
 mo 7 (tm 24)]))))))

def lf225 : LFunc := ⟨2, [.tmp 4, .tmp 5],
 (.seq (.reg [mo 4 (ku 0),
 mo 5 (kB false)])
 (.seq (.seq (.reg [mo 8 (tm 1),
 b2 9 .lss 3 (tm 8) (ki 1) 3 4,
 mo 10 (tm 9),
 ⟨(some 11), (some (10, false)), .mv (tm 1)⟩,
 ⟨(some 12), (some (10, false)), .prim ⟨none, (.binOp .gtr 3 (tm 11) (ki 8) 3), 4, "", #[], none⟩⟩,
 oo 13 (.pick (tm 10) (kB true) (tm 12)),
 mo 14 (tm 13),
 ⟨(some 15), (some (14, false)), .mv (tm 1)⟩,
 ⟨(some 16), (some (14, false)), .mv (tm 0)⟩,
 ⟨(some 17), (some (14, false)), .prim ⟨none, (.call ⟨.builtin .len, #[(tm 16)], #[9]⟩), 3, "", #[], none⟩⟩,
 ⟨(some 18), (some (14, false)), .prim ⟨none, (.binOp .gtr 3 (tm 15) (tm 17) 3), 4, "", #[], none⟩⟩,
 oo 19 (.pick (tm 14) (kB true) (tm 18))])
 (.seq (.keep [0, 1, 19])
 (.cond (tm 19) (.seq (.reg [mo 4 (ku 0),
 mo 5 (kB false)])
 .ret)
 .skip)))
 (.seq (.keep [0, 1])
 (.seq (.reg [mo 6 (ku 0)])
 (.seq (.seq (.reg [mo 7 (ki 0)])
 (.block 0 lp225x0))
 (.seq (.keep [6])
 (.seq (.reg [mo 32 (tm 6),
 mo 4 (tm 32),
 mo 5 (kB true)])
 .ret)))))))⟩

def lp226x0 : LCode := .loop (.seq (.keep [0, 2, 4, 10, 11])
 (.seq (.seq (.reg [mo 65 (tm 11),
 b2 66 .lss 3 (tm 65) (ki 8) 3 4])
 (.cond (tm 66) .skip
 (.exit 0)))
 (.seq (.keep [0, 2, 4, 10, 11])
 (.seq (.block 1 (.reg [mo 69 (tm 11),
 mo 70 (tm 0),
 mo 71 (tm 10),
 b2 72 .add 3 (tm 71) (ki 1) 3 3,
 mo 73 (tm 11),
 b2 74 .add 3 (tm 72) (tm 73) 3 3,
 ix 75 9 (tm 70) (tm 74) 5,
 fa 76 4 (tm 4),
 oo 77 (.iadra 8 1 (tm 76) (tm 69)),
 sr 1 (tm 77) (tm 75)]))
 (.seq (.keep [0, 2, 4, 10, 11])
 (.reg [mo 67 (tm 11),
 b2 68 .add 3 (tm 67) (ki 1) 3 3,
 mo 11 (tm 68)]))))))

def lf226 : LFunc := ⟨1, [.ldn 2 13, .tmp 3],
 (.seq (.reg [oo 2 (.alloc [(.int .u64 0), (.int .u64 0), (.int .u8 0), (.int .u8 0), (.int .u8 0), (.int .u8 0), (.int .u8 0), (.int .u8 0), (.int .u8 0), (.int .u8 0), (.int .u8 0), (.int .u8 0), (.string ⟨#[]⟩)]),
 mo 3 (kB false)])
 (.seq (.seq (.reg [mo 15 (tm 0),
 ln 16 (tm 15) 9 3,
 b2 17 .lss 3 (tm 16) (ki 3) 3 4])
 (.cond (tm 17) (.seq (.reg [oo 18 (.build [(.int .u64 0), (.int .u64 0), (.int .u8 0), (.int .u8 0), (.int .u8 0), (.int .u8 0), (.int .u8 0), (.int .u8 0), (.int .u8 0), (.int .u8 0), (.int .u8 0), (.int .u8 0), (.string ⟨#[]⟩)] []),
 sr 13 (tm 2) (tm 18),
 mo 3 (kB false)])
 .ret)
 .skip))
 (.seq (.keep [0, 2])
 (.seq (.reg [mo 19 (tm 0),
 ix 20 9 (tm 19) (ki 0) 5,
 oo 21 (.build [(.int .u64 0), (.int .u64 0), (.int .u8 0), (.int .u8 0), (.int .u8 0), (.int .u8 0), (.int .u8 0), (.int .u8 0), (.int .u8 0), (.int .u8 0), (.int .u8 0), (.int .u8 0), (.string ⟨#[]⟩)] [(2, 1, (tm 20))]),
 oo 4 (.alloc [(.int .u64 0), (.int .u64 0), (.int .u8 0), (.int .u8 0), (.int .u8 0), (.int .u8 0), (.int .u8 0), (.int .u8 0), (.int .u8 0), (.int .u8 0), (.int .u8 0), (.int .u8 0), (.string ⟨#[]⟩)]),
 sr 13 (tm 4) (tm 21)])
 (.seq (.reg [mo 23 (tm 0),
 oo 24 (.slcs (tm 23) (some (ki 1)) none),
 ca 25 195 [(tm 24)],
 mo 22 (tm 25),
 ex 26 (tm 22) 0,
 ex 27 (tm 22) 1,
 ex 28 (tm 22) 2,
 mo 5 (tm 26),
 mo 6 (tm 27),
 mo 7 (tm 28)])
 (.seq (.keep [0, 2, 4, 5, 6, 7])
 (.seq (.seq (.reg [mo 29 (tm 7),
 u1 30 .not 4 (tm 29) 4])
 (.cond (tm 30) (.seq (.reg [oo 31 (.build [(.int .u64 0), (.int .u64 0), (.int .u8 0), (.int .u8 0), (.int .u8 0), (.int .u8 0), (.int .u8 0), (.int .u8 0), (.int .u8 0), (.int .u8 0), (.int .u8 0), (.int .u8 0), (.string ⟨#[]⟩)] []),
 sr 13 (tm 2) (tm 31),
 mo 3 (kB false)])
 .ret)
 .skip))
 (.seq (.keep [0, 2, 4, 5, 6])
 (.seq (.reg [mo 33 (tm 0),
 mo 34 (tm 6),
 b2 35 .add 3 (ki 1) (tm 34) 3 3,
 oo 36 (.slcs (tm 33) (some (tm 35)) none),
 ca 37 195 [(tm 36)],
 mo 32 (tm 37),
 ex 38 (tm 32) 0,
 ex 39 (tm 32) 1,
 ex 40 (tm 32) 2,
 mo 8 (tm 38),
 mo 9 (tm 39),
 mo 7 (tm 40)])
 (.seq (.keep [0, 2, 4, 5, 6, 7, 8, 9])
 (.seq (.seq (.reg [mo 41 (tm 7),
 u1 42 .not 4 (tm 41) 4])
 (.cond (tm 42) (.seq (.reg [oo 43 (.build [(.int .u64 0), (.int .u64 0), (.int .u8 0), (.int .u8 0), (.int .u8 0), (.int .u8 0), (.int .u8 0), (.int .u8 0), (.int .u8 0), (.int .u8 0), (.int .u8 0), (.int .u8 0), (.string ⟨#[]⟩)] []),
 sr 13 (tm 2) (tm 43),
 mo 3 (kB false)])
 .ret)
 .skip))
 (.seq (.keep [0, 2, 4, 5, 6, 8, 9])
 (.seq (.reg [mo 44 (tm 5),
 fa 45 0 (tm 4),
 sr 1 (tm 45) (tm 44)])
 (.seq (.reg [mo 46 (tm 8),
 fa 47 1 (tm 4),
 sr 1 (tm 47) (tm 46)])
 (.seq (.reg [mo 48 (tm 6),
 b2 49 .add 3 (ki 1) (tm 48) 3 3,
 mo 50 (tm 9),
 b2 51 .add 3 (tm 49) (tm 50) 3 3,
 mo 10 (tm 51)])
 (.seq (.seq (.reg [fa 52 2 (tm 4),
 l1 53 (tm 52),
 b2 54 .eql 5 (tm 53) (kb 3) 5 4])
 (.cond (tm 54) (.seq (.seq (.reg [mo 55 (tm 10),
 b2 56 .add 3 (tm 55) (ki 9) 3 3,
 mo 57 (tm 0),
 ln 58 (tm 57) 9 3,
 b2 59 .gtr 3 (tm 56) (tm 58) 3 4])
 (.cond (tm 59) (.seq (.reg [oo 60 (.build [(.int .u64 0), (.int .u64 0), (.int .u8 0), (.int .u8 0), (.int .u8 0), (.int .u8 0), (.int .u8 0), (.int .u8 0), (.int .u8 0), (.int .u8 0), (.int .u8 0), (.int .u8 0), (.string ⟨#[]⟩)] []),
 sr 13 (tm 2) (tm 60),
 mo 3 (kB false)])
 .ret)
 .skip))
 (.seq (.keep [0, 2, 4, 10])
 (.seq (.reg [mo 61 (tm 0),
 mo 62 (tm 10),
 ix 63 9 (tm 61) (tm 62) 5,
 fa 64 3 (tm 4),
 sr 1 (tm 64) (tm 63)])
 (.seq (.seq (.reg [mo 11 (ki 0)])
 (.block 0 lp226x0))
 (.seq (.keep [0, 2, 4, 10])
 (.reg [mo 78 (tm 10),
 b2 79 .add 3 (tm 78) (ki 9) 3 3,
 mo 10 (tm 79)]))))))
 .skip))
 (.seq (.keep [0, 2, 4, 10])
 (.seq (.seq (.reg [fa 80 2 (tm 4),
 l1 81 (tm 80),
 b2 82 .geq 5 (tm 81) (kb 2) 5 4,
 mo 83 (tm 82),
 ⟨(some 84), (some (83, true)), .fadr 2 (tm 4)⟩,
 ⟨(some 85), (some (83, true)), .ld1 (tm 84)⟩,
 ⟨(some 86), (some (83, true)), .prim ⟨none, (.binOp .leq 5 (tm 85) (kb 4) 5), 4, "", #[], none⟩⟩,
 oo 87 (.pick (tm 83) (tm 86) (kB false))])
 (.seq (.keep [0, 2, 4, 10, 87])
 (.cond (tm 87) (.seq (.reg [mo 89 (tm 0),
 mo 90 (tm 10),
 oo 91 (.slcs (tm 89) (some (tm 90)) none),
 ca 92 241 [(tm 91)],
 mo 88 (tm 92),
 ex 93 (tm 88) 0,
 ex 94 (tm 88) 1,
 ex 95 (tm 88) 2,
 mo 12 (tm 93),
 mo 13 (tm 94),
 mo 14 (tm 95)])
 (.seq (.keep [0, 2, 4, 10, 12, 13, 14])
 (.seq (.seq (.reg [mo 96 (tm 14),
 u1 97 .not 4 (tm 96) 4])
 (.cond (tm 97) (.seq (.reg [oo 98 (.build [(.int .u64 0), (.int .u64 0), (.int .u8 0), (.int .u8 0), (.int .u8 0), (.int .u8 0), (.int .u8 0), (.int .u8 0), (.int .u8 0), (.int .u8 0), (.int .u8 0), (.int .u8 0), (.string ⟨#[]⟩)] []),
 sr 13 (tm 2) (tm 98),
 mo 3 (kB false)])
 .ret)
 .skip))
 (.seq (.keep [0, 2, 4, 10, 12, 13])
 (.seq (.reg [mo 99 (tm 12),
 fa 100 12 (tm 4),
 sr 1 (tm 100) (tm 99)])
 (.reg [mo 101 (tm 10),
 mo 102 (tm 13),
 b2 103 .add 3 (tm 101) (tm 102) 3 3,
 mo 10 (tm 103)]))))))
 .skip)))
 (.seq (.keep [0, 2, 4, 10])
 (.seq (.seq (.reg [mo 104 (tm 10),
 mo 105 (tm 0),
 ln 106 (tm 105) 9 3,
 b2 107 .neq 3 (tm 104) (tm 106) 3 4,
 mo 108 (tm 107),
 ⟨(some 109), (some (108, false)), .ldn 13 (tm 4)⟩,
 ⟨(some 110), (some (108, false)), .call 114 [(tm 109)]⟩,
 ⟨(some 111), (some (108, false)), .prim ⟨none, (.unOp .not 4 (tm 110)), 4, "", #[], none⟩⟩,
 oo 112 (.pick (tm 108) (kB true) (tm 111))])
 (.seq (.keep [2, 4, 112])
 (.cond (tm 112) (.seq (.reg [oo 113 (.build [(.int .u64 0), (.int .u64 0), (.int .u8 0), (.int .u8 0), (.int .u8 0), (.int .u8 0), (.int .u8 0), (.int .u8 0), (.int .u8 0), (.int .u8 0), (.int .u8 0), (.int .u8 0), (.string ⟨#[]⟩)] []),
 sr 13 (tm 2) (tm 113),
 mo 3 (kB false)])
 .ret)
 .skip)))
 (.seq (.keep [2, 4])
 (.seq (.reg [l2 114 13 (tm 4),
 sr 13 (tm 2) (tm 114),
 mo 3 (kB true)])
 .ret))))))))))))))))))))))⟩

def lf239 : LFunc := ⟨4, [.tmp 8, .tmp 9],
 (.seq (.reg [mo 8 (ki 0),
 mo 9 (ki 0)])
 (.seq (.seq (.dreg [mo 10 (tm 0),
 mo 11 (tm 2),
 is 12 1 (tm 10) (tm 11),
 l1 13 (tm 12),
 mo 14 (tm 0),
 mo 15 (tm 1),
 is 16 1 (tm 14) (tm 15),
 l1 17 (tm 16),
 ca 18 184 [(tm 13), (tm 17)]] [])
 (.seq (.keep [1, 2, 3, 18])
 (.cond (tm 18) (.seq (.reg [mo 19 (tm 3),
 nc 20 (tm 19),
 l1 21 (tm 20),
 b2 22 .add 3 (tm 21) (ki 1) 3 3,
 nc 23 (tm 19),
 sr 1 (tm 23) (tm 22)])
 (.seq (.reg [mo 24 (tm 2),
 mo 25 (tm 1),
 mo 8 (tm 24),
 mo 9 (tm 25)])
 .ret))
 .skip)))
 (.seq (.keep [1, 2])
 (.seq (.reg [mo 26 (tm 1),
 mo 27 (tm 2),
 mo 8 (tm 26),
 mo 9 (tm 27)])
 .ret))))⟩

def lp240x0 : LCode := .loop (.seq (.keep [0, 3, 4])
 (.seq (.seq (.reg [mo 5 (tm 4),
 mo 6 (tm 0),
 le 7 false (tm 6),
 b2 8 .lss 3 (tm 5) (tm 7) 3 4])
 (.cond (tm 8) .skip
 (.exit 0)))
 (.seq (.keep [0, 3, 4])
 (.seq (.block 1 (.dreg [mo 11 (tm 3),
 mo 12 (tm 0),
 mo 13 (tm 4),
 is 14 1 (tm 12) (tm 13),
 l1 15 (tm 14),
 ln 16 (tm 15) 9 3,
 cv 17 3 22 (tm 16) 22,
 ca 18 223 [(tm 17)],
 b2 19 .add 9 (tm 11) (tm 18) 9 9,
 mo 20 (tm 0),
 mo 21 (tm 4),
 is 22 1 (tm 20) (tm 21),
 l1 23 (tm 22),
 b2 24 .add 9 (tm 19) (tm 23) 9 9,
 mo 3 (tm 24)] [(12, 0, 1)]))
 (.seq (.keep [0, 3, 4])
 (.reg [mo 9 (tm 4),
 b2 10 .add 3 (tm 9) (ki 1) 3 3,
 mo 4 (tm 10)]))))))

def lf240 : LFunc := ⟨1, [.tmp 2],
 (.seq (.reg [mo 2 (.const (.string ⟨#[]⟩))])
 (.seq (.reg [mo 3 (.const (.string ⟨#[]⟩))])
 (.seq (.seq (.reg [mo 4 (ki 0)])
 (.block 0 lp240x0))
 (.seq (.keep [3])
 (.seq (.reg [mo 25 (tm 3),
 mo 2 (tm 25)])
 .ret)))))⟩

def lf241 : LFunc := ⟨1, [.tmp 2, .tmp 3, .tmp 4],
 (.seq (.reg [mo 2 (.const (.string ⟨#[]⟩)),
 mo 3 (ki 0),
 mo 4 (kB false)])
 (.seq (.reg [mo 9 (tm 0),
 ca 10 195 [(tm 9)],
 mo 8 (tm 10),
 ex 11 (tm 8) 0,
 ex 12 (tm 8) 1,
 ex 13 (tm 8) 2,
 mo 5 (tm 11),
 mo 6 (tm 12),
 mo 7 (tm 13)])
 (.seq (.keep [0, 5, 6, 7])
 (.seq (.seq (.reg [mo 14 (tm 7),
 u1 15 .not 4 (tm 14) 4,
 mo 16 (tm 15),
 ⟨(some 17), (some (16, false)), .mv (tm 5)⟩,
 ⟨(some 18), (some (16, false)), .mv (tm 0)⟩,
 ⟨(some 19), (some (16, false)), .prim ⟨none, (.call ⟨.builtin .len, #[(tm 18)], #[9]⟩), 3, "", #[], none⟩⟩,
 ⟨(some 20), (some (16, false)), .prim ⟨none, (.convert 3 22 (tm 19)), 22, "", #[], none⟩⟩,
 ⟨(some 21), (some (16, false)), .prim ⟨none, (.binOp .gtr 22 (tm 17) (tm 20) 22), 4, "", #[], none⟩⟩,
 oo 22 (.pick (tm 16) (kB true) (tm 21)),
 mo 23 (tm 22),
 ⟨(some 24), (some (23, false)), .mv (tm 6)⟩,
 ⟨(some 25), (some (23, false)), .mv (tm 5)⟩,
 ⟨(some 26), (some (23, false)), .prim ⟨none, (.convert 22 3 (tm 25)), 3, "", #[], none⟩⟩,
 ⟨(some 27), (some (23, false)), .prim ⟨none, (.binOp .add 3 (tm 24) (tm 26) 3), 3, "", #[], none⟩⟩,
 ⟨(some 28), (some (23, false)), .mv (tm 0)⟩,
 ⟨(some 29), (some (23, false)), .prim ⟨none, (.call ⟨.builtin .len, #[(tm 28)], #[9]⟩), 3, "", #[], none⟩⟩,
 ⟨(some 30), (some (23, false)), .prim ⟨none, (.binOp .gtr 3 (tm 27) (tm 29) 3), 4, "", #[], none⟩⟩,
 oo 31 (.pick (tm 23) (kB true) (tm 30))])
 (.seq (.keep [0, 5, 6, 31])
 (.cond (tm 31) (.seq (.reg [mo 2 (.const (.string ⟨#[]⟩)),
 mo 3 (ki 0),
 mo 4 (kB false)])
 .ret)
 .skip)))
 (.seq (.keep [0, 5, 6])
 (.seq (.reg [mo 32 (tm 0),
 mo 33 (tm 6),
 mo 34 (tm 6),
 mo 35 (tm 5),
 cv 36 22 3 (tm 35) 3,
 b2 37 .add 3 (tm 34) (tm 36) 3 3,
 oo 38 (.slcs (tm 32) (some (tm 33)) (some (tm 37))),
 mo 39 (tm 6),
 mo 40 (tm 5),
 cv 41 22 3 (tm 40) 3,
 b2 42 .add 3 (tm 39) (tm 41) 3 3,
 mo 2 (tm 38),
 mo 3 (tm 42),
 mo 4 (kB true)])
 (.seq (.keep [2, 3, 4])
 .ret)))))))⟩

end Go.Proofs.YtfpocoongggehaaGreatDoor
