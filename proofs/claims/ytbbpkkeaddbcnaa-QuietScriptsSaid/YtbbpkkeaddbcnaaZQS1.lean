/- Compact codes. -/
import Derived.Test.YtbbpkkeaddbcnaaZJ23
import Derived.Test.YtbbpkkeaddbcnaaProg
import Derived.KernelRfl
namespace Go.Proofs.Ytbbpkkeaddbcnaa.ZJM.QS
open Go.Proofs.Ytbbpkkeaddbcnaa.ZJM

/-- tripwire/tripwirelaw43.QuietScripts -/
def c3 : CFn := CFn.mk 2 [.cell 4 false 1]
    (.seq (.reg [⟨some 2, none, .box, [.t 0]⟩,
      ⟨some 3, none, .box, [.t 1]⟩,
      ⟨some 4, none, .alloc [(.bool false)], []⟩])
    (.seq (.reg [⟨some 15, none, .load false 1, [.t 2]⟩,
      ⟨some 16, none, .load false 1, [.t 2]⟩,
      ⟨some 17, none, .len, [.t 16]⟩,
      ⟨some 18, none, .mn, [.t 17, .c (.int .i64 40)]⟩,
      ⟨some 19, none, .slcl 2 false true, [.t 15, .t 18]⟩,
      ⟨none, none, .store 1, [.t 2, .t 19]⟩])
    (.seq (.reg [⟨some 20, none, .load false 1, [.t 2]⟩,
      ⟨some 21, none, .callh 7, [.t 20]⟩,
      ⟨some 5, none, .mv, [.t 21]⟩])
    (.seq (.seq (.draw 23 [0, 0, 2, 7, 15, 31, 63, 127, 63, 511, 1023, 2047, 4095, 8191, 16383, 8191, 40959, 131071, 262143, 524287, 1048575, 2097151, 1048575, 8388607, 16777215, 33554431, 67108863] [⟨some 22, none, .mv, [.t 5]⟩,
      ⟨some 23, none, .load false 1, [.t 2]⟩,
      ⟨some 24, none, .callh 9, [.t 23]⟩,
      ⟨some 25, none, .callh 8, [.t 22, .t 24]⟩,
      ⟨some 26, none, .un .not, [.t 25]⟩,
      ⟨some 27, none, .mv, [.t 26]⟩,
      ⟨some 28, (some (27, false)), .mv, [.t 5]⟩,
      ⟨some 29, (some (27, false)), .callh 7, [.t 28]⟩,
      ⟨some 30, (some (27, false)), .mv, [.t 5]⟩,
      ⟨some 31, (some (27, false)), .callh 8, [.t 29, .t 30]⟩,
      ⟨some 32, (some (27, false)), .un .not, [.t 31]⟩,
      ⟨some 33, none, .pick, [.t 27, .c (.bool true), .t 32]⟩,
      ⟨some 34, none, .mv, [.t 33]⟩,
      ⟨some 35, (some (34, false)), .mv, [.t 5]⟩,
      ⟨some 36, (some (34, false)), .len, [.t 35]⟩,
      ⟨some 37, (some (34, false)), .load false 1, [.t 2]⟩,
      ⟨some 38, (some (34, false)), .len, [.t 37]⟩,
      ⟨some 39, (some (34, false)), .bin .neq, [.t 36, .t 38]⟩,
      ⟨some 40, none, .pick, [.t 34, .c (.bool true), .t 39]⟩,
      ⟨some 41, none, .mv, [.t 40]⟩,
      ⟨some 42, (some (41, false)), .load false 1, [.t 2]⟩,
      ⟨some 43, (some (41, false)), .callh 10, [.t 42]⟩,
      ⟨some 44, (some (41, false)), .load false 1, [.t 2]⟩,
      ⟨some 45, (some (41, false)), .callh 11, [.t 44]⟩,
      ⟨some 46, (some (41, false)), .callh 8, [.t 43, .t 45]⟩,
      ⟨some 47, (some (41, false)), .un .not, [.t 46]⟩,
      ⟨some 48, none, .pick, [.t 41, .c (.bool true), .t 47]⟩])
    (.cond (.t 48) (.seq (.reg [⟨none, none, .store 1, [.t 4, .c (.bool false)]⟩])
    .ret) .skip))
    (.seq (.reg [⟨some 6, none, .mv, [.c (.fn 12 [])]⟩])
    (.seq (.reg [⟨some 7, none, .mv, [.c (.fn 13 [])]⟩])
    (.seq (.seq (.draw 11 [0, 0, 3, 0, 15, 31, 63, 127, 127, 511, 127, 2047, 4095, 8191] [⟨some 49, none, .load false 1, [.t 2]⟩,
      ⟨some 50, none, .mv, [.t 6]⟩,
      ⟨some 51, none, .callh 14, [.t 49, .t 50]⟩,
      ⟨some 52, none, .mv, [.t 5]⟩,
      ⟨some 53, none, .callh 8, [.t 51, .t 52]⟩,
      ⟨some 54, none, .un .not, [.t 53]⟩,
      ⟨some 55, none, .mv, [.t 54]⟩,
      ⟨some 56, (some (55, false)), .load false 1, [.t 2]⟩,
      ⟨some 57, (some (55, false)), .mv, [.t 7]⟩,
      ⟨some 58, (some (55, false)), .callh 14, [.t 56, .t 57]⟩,
      ⟨some 59, (some (55, false)), .load false 1, [.t 2]⟩,
      ⟨some 60, (some (55, false)), .callh 8, [.t 58, .t 59]⟩,
      ⟨some 61, (some (55, false)), .un .not, [.t 60]⟩,
      ⟨some 62, none, .pick, [.t 55, .c (.bool true), .t 61]⟩])
    (.cond (.t 62) (.seq (.reg [⟨none, none, .store 1, [.t 4, .c (.bool false)]⟩])
    .ret) .skip))
    (.seq (.reg [⟨some 8, none, .alloc [(.int .i64 0)], []⟩,
      ⟨some 9, none, .alloc [(.int .i64 0)], []⟩,
      ⟨some 10, none, .alloc [(.int .i64 0)], []⟩,
      ⟨none, none, .store 1, [.t 8, .c (.int .i64 0)]⟩,
      ⟨none, none, .store 1, [.t 9, .c (.int .i64 0)]⟩,
      ⟨none, none, .store 1, [.t 10, .c (.int .i64 0)]⟩])
    (.seq (.reg [⟨some 63, none, .load false 1, [.t 2]⟩,
      ⟨some 64, none, .call 15 false, [.t 63]⟩,
      ⟨some 11, none, .mv, [.t 64]⟩])
    (.seq (.seq (.reg [⟨some 65, none, .mv, [.t 11]⟩,
      ⟨some 66, none, .fnil false, [.t 65]⟩])
    (.cond (.t 66) (.seq (.reg [⟨none, none, .store 1, [.t 4, .c (.bool false)]⟩])
    .ret) .skip))
    (.seq (.seq (.reg [⟨some 67, none, .mv, [.t 11]⟩])
    (.block 0 (.range (.t 67) 500000000 [2, 4, 8, 9] 3 0)))
    (.seq (.block 4 (.loop [2, 3, 4, 8, 9, 10] [2, 3, 4, 8, 9, 10] [] [] (.seq (.seq (.reg [⟨some 131, none, .load false 1, [.t 8]⟩,
      ⟨some 132, none, .load false 1, [.t 2]⟩,
      ⟨some 133, none, .len, [.t 132]⟩,
      ⟨some 134, none, .bin .lss, [.t 131, .t 133]⟩])
    (.cond (.t 134) .skip (.exit 4)))
    (.block 5 (.seq (.seq (.draw 7 [0, 0, 0, 6, 14, 30, 62, 127] [⟨some 135, none, .load false 1, [.t 9]⟩,
      ⟨some 136, none, .load false 1, [.t 2]⟩,
      ⟨some 137, none, .load false 1, [.t 8]⟩,
      ⟨some 138, none, .ladr 2, [.t 136, .t 137]⟩,
      ⟨some 139, none, .fadr 0, [.t 138]⟩,
      ⟨some 140, none, .load false 1, [.t 139]⟩,
      ⟨some 141, none, .len, [.t 140]⟩,
      ⟨some 142, none, .bin .neq, [.t 135, .t 141]⟩])
    (.cond (.t 142) (.seq (.reg [⟨none, none, .store 1, [.t 4, .c (.bool false)]⟩])
    .ret) .skip))
    (.seq (.reg [⟨some 143, none, .load false 1, [.t 8]⟩,
      ⟨some 144, none, .bin .add, [.t 143, .c (.int .i64 1)]⟩,
      ⟨none, none, .store 1, [.t 8, .t 144]⟩])
    (.reg [⟨none, none, .store 1, [.t 9, .c (.int .i64 0)]⟩])))))))
    (.seq (.reg [⟨some 145, none, .load false 1, [.t 2]⟩,
      ⟨some 146, none, .call 15 false, [.t 145]⟩,
      ⟨some 14, none, .mv, [.t 146]⟩])
    (.seq (.seq (.reg [⟨some 147, none, .mv, [.t 14]⟩,
      ⟨some 148, none, .fnil false, [.t 147]⟩])
    (.cond (.t 148) (.seq (.reg [⟨none, none, .store 1, [.t 4, .c (.bool false)]⟩])
    .ret) .skip))
    (.seq (.seq (.reg [⟨some 149, none, .mv, [.t 14]⟩])
    (.block 6 (.range (.t 149) 500000001 [3, 10] 3 1)))
    (.seq (.reg [⟨some 158, none, .callh 17, []⟩,
      ⟨some 159, none, .mv, [.t 158]⟩,
      ⟨some 160, (some (159, true)), .load false 1, [.t 10]⟩,
      ⟨some 161, (some (159, true)), .load false 1, [.t 3]⟩,
      ⟨some 162, (some (159, true)), .i2i .i64, [.t 161]⟩,
      ⟨some 163, (some (159, true)), .bin .leq, [.t 160, .t 162]⟩,
      ⟨some 164, none, .pick, [.t 159, .t 163, .c (.bool false)]⟩,
      ⟨none, none, .store 1, [.t 4, .t 164]⟩])
    .ret)))))))))))))))) [Rd.mk [68, 69] [2, 4, 8, 9] (.seq (.reg [⟨some 12, none, .mv, [.t 68]⟩])
    (.reg [⟨some 13, none, .alloc [(.int .i64 0), (.int .i64 0), (.int .i64 0), (.int .i64 0), (.int .i64 0), (.int .i64 0), (.int .i64 0), (.bool false), (.bool false), (.str ByteArray.empty), (.int .i64 0), (.int .i64 0), (.int .i64 0)], []⟩,
      ⟨none, none, .store 13, [.t 13, .t 69]⟩])) (.block 1 (.seq (.block 2 (.loop [2, 4, 8, 9, 12, 13] [13] [] [] (.seq (.seq (.reg [⟨some 70, none, .load false 1, [.t 8]⟩,
      ⟨some 71, none, .mv, [.t 12]⟩,
      ⟨some 72, none, .bin .lss, [.t 70, .t 71]⟩])
    (.cond (.t 72) .skip (.exit 2)))
    (.block 3 (.seq (.seq (.draw 12 [0, 0, 2, 7, 15, 31, 31, 31, 223, 479, 991, 2015, 4095, 8191] [⟨some 73, none, .load false 1, [.t 8]⟩,
      ⟨some 74, none, .load false 1, [.t 2]⟩,
      ⟨some 75, none, .len, [.t 74]⟩,
      ⟨some 76, none, .bin .geq, [.t 73, .t 75]⟩,
      ⟨some 77, none, .mv, [.t 76]⟩,
      ⟨some 78, (some (77, false)), .load false 1, [.t 9]⟩,
      ⟨some 79, (some (77, false)), .load false 1, [.t 2]⟩,
      ⟨some 80, (some (77, false)), .load false 1, [.t 8]⟩,
      ⟨some 81, (some (77, false)), .ladr 2, [.t 79, .t 80]⟩,
      ⟨some 82, (some (77, false)), .fadr 0, [.t 81]⟩,
      ⟨some 83, (some (77, false)), .load false 1, [.t 82]⟩,
      ⟨some 84, (some (77, false)), .len, [.t 83]⟩,
      ⟨some 85, (some (77, false)), .bin .neq, [.t 78, .t 84]⟩,
      ⟨some 86, none, .pick, [.t 77, .c (.bool true), .t 85]⟩])
    (.cond (.t 86) (.seq (.reg [⟨none, none, .store 1, [.t 4, .c (.bool false)]⟩])
    .ret) .skip))
    (.seq (.reg [⟨some 87, none, .load false 1, [.t 8]⟩,
      ⟨some 88, none, .bin .add, [.t 87, .c (.int .i64 1)]⟩,
      ⟨none, none, .store 1, [.t 8, .t 88]⟩])
    (.reg [⟨none, none, .store 1, [.t 9, .c (.int .i64 0)]⟩])))))))
    (.seq (.seq (.draw 32 [0, 0, 2, 7, 15, 31, 31, 31, 223, 479, 991, 2015, 4095, 8191, 16383, 32767, 32767, 131071, 262143, 524287, 32767, 2097151, 4194303, 32767, 16777215, 33554431, 67108863, 134217727, 268435455, 134217727, 671088639, 1744830463, 4294967295, 8589934591, 17179869183, 34359738367, 68719476735, 137438953471, 274877906943, 549755813887] [⟨some 89, none, .load false 1, [.t 8]⟩,
      ⟨some 90, none, .load false 1, [.t 2]⟩,
      ⟨some 91, none, .len, [.t 90]⟩,
      ⟨some 92, none, .bin .geq, [.t 89, .t 91]⟩,
      ⟨some 93, none, .mv, [.t 92]⟩,
      ⟨some 94, (some (93, false)), .load false 1, [.t 9]⟩,
      ⟨some 95, (some (93, false)), .load false 1, [.t 2]⟩,
      ⟨some 96, (some (93, false)), .load false 1, [.t 8]⟩,
      ⟨some 97, (some (93, false)), .ladr 2, [.t 95, .t 96]⟩,
      ⟨some 98, (some (93, false)), .fadr 0, [.t 97]⟩,
      ⟨some 99, (some (93, false)), .load false 1, [.t 98]⟩,
      ⟨some 100, (some (93, false)), .len, [.t 99]⟩,
      ⟨some 101, (some (93, false)), .bin .geq, [.t 94, .t 100]⟩,
      ⟨some 102, none, .pick, [.t 93, .c (.bool true), .t 101]⟩,
      ⟨some 103, none, .mv, [.t 102]⟩,
      ⟨some 104, (some (103, false)), .load false 1, [.t 2]⟩,
      ⟨some 105, (some (103, false)), .load false 1, [.t 8]⟩,
      ⟨some 106, (some (103, false)), .ladr 2, [.t 104, .t 105]⟩,
      ⟨some 107, (some (103, false)), .fadr 0, [.t 106]⟩,
      ⟨some 108, (some (103, false)), .load false 1, [.t 107]⟩,
      ⟨some 109, (some (103, false)), .load false 1, [.t 9]⟩,
      ⟨some 110, (some (103, false)), .ladr 13, [.t 108, .t 109]⟩,
      ⟨some 111, (some (103, false)), .load true 13, [.t 110]⟩,
      ⟨some 112, (some (103, false)), .load true 13, [.t 13]⟩,
      ⟨some 113, (some (103, false)), .eq [(0, 0), (1, 0), (2, 0), (3, 0), (4, 0), (5, 0), (6, 0), (7, 1), (8, 1), (9, 2), (10, 0), (11, 0), (12, 0)] true, [.t 111, .t 112]⟩,
      ⟨some 114, none, .pick, [.t 103, .c (.bool true), .t 113]⟩,
      ⟨some 115, none, .mv, [.t 114]⟩,
      ⟨some 116, (some (115, false)), .load true 13, [.t 13]⟩,
      ⟨some 117, (some (115, false)), .callh 16, [.t 116]⟩,
      ⟨some 118, (some (115, false)), .fadr 0, [.t 13]⟩,
      ⟨some 119, (some (115, false)), .load false 1, [.t 118]⟩,
      ⟨some 120, (some (115, false)), .bin .eql, [.t 119, .c (.int .i64 2)]⟩,
      ⟨some 121, (some (115, false)), .mv, [.t 120]⟩,
      ⟨some 122, (some (121, true)), .fadr 5, [.t 13]⟩,
      ⟨some 123, (some (121, true)), .fadr 2, [.t 122]⟩,
      ⟨some 124, (some (121, true)), .load false 1, [.t 123]⟩,
      ⟨some 125, (some (121, true)), .un .not, [.t 124]⟩,
      ⟨some 126, (some (115, false)), .pick, [.t 121, .t 125, .c (.bool false)]⟩,
      ⟨some 127, (some (115, false)), .beq true, [.t 117, .t 126]⟩,
      ⟨some 128, none, .pick, [.t 115, .c (.bool true), .t 127]⟩])
    (.cond (.t 128) (.seq (.reg [⟨none, none, .store 1, [.t 4, .c (.bool false)]⟩])
    .ret) .skip))
    (.reg [⟨some 129, none, .load false 1, [.t 9]⟩,
      ⟨some 130, none, .bin .add, [.t 129, .c (.int .i64 1)]⟩,
      ⟨none, none, .store 1, [.t 9, .t 130]⟩])))),
    Rd.mk [150, 151] [3, 10] .skip (.block 7 (.seq (.seq (.reg [⟨some 152, none, .load false 1, [.t 10]⟩,
      ⟨some 153, none, .load false 1, [.t 3]⟩,
      ⟨some 154, none, .i2i .i64, [.t 153]⟩,
      ⟨some 155, none, .bin .eql, [.t 152, .t 154]⟩])
    (.cond (.t 155) (.exit 6) .skip))
    (.reg [⟨some 156, none, .load false 1, [.t 10]⟩,
      ⟨some 157, none, .bin .add, [.t 156, .c (.int .i64 1)]⟩,
      ⟨none, none, .store 1, [.t 10, .t 157]⟩])))]

/-- tripwire/quiet.Quiet -/
def c7 : CFn := CFn.mk 1 [.t 2 false]
    (.seq (.reg [⟨some 2, none, .nil false 2 43, []⟩])
    (.seq (.reg [⟨some 3, none, .mv, [.t 0]⟩,
      ⟨some 4, none, .callh 14, [.t 3, .c (.fn 16 [])]⟩,
      ⟨some 2, none, .mv, [.t 4]⟩])
    .ret)) []

/-- tripwire/quiet.Without -/
def c14 : CFn := CFn.mk 2 [.t 4 false]
    (.seq (.reg [⟨some 4, none, .nil false 2 43, []⟩])
    (.seq (.reg [⟨some 5, none, .nil false 2 43, []⟩])
    (.seq (.seq (.reg [⟨some 11, none, .mv, [.t 0]⟩,
      ⟨some 12, none, .len, [.t 11]⟩,
      ⟨some 13, none, .mv, [.c (.int .i64 0)]⟩])
    (.block 0 (.loop [1, 5, 11, 12, 13] [] [] [5] (.seq (.reg [⟨some 14, none, .bin .lss, [.t 13, .t 12]⟩])
    (.seq (.cond (.t 14) .skip (.exit 0))
    (.seq (.block 1 (.seq (.reg [⟨some 15, none, .ladr 2, [.t 11, .t 13]⟩,
      ⟨some 16, none, .load true 2, [.t 15]⟩,
      ⟨some 7, none, .alloc [(.lst none true 13 []), (.lst none true 15 [])], []⟩,
      ⟨none, none, .store 2, [.t 7, .t 16]⟩])
    (.seq (.reg [⟨some 17, none, .fadr 1, [.t 7]⟩,
      ⟨some 18, none, .load false 1, [.t 17]⟩,
      ⟨some 19, none, .callh 39, [.t 18]⟩,
      ⟨some 20, none, .build [(.lst none true 13 []), (.lst none true 15 [])] [(1, 1)], [.t 19]⟩,
      ⟨some 8, none, .alloc [(.lst none true 13 []), (.lst none true 15 [])], []⟩,
      ⟨none, none, .store 2, [.t 8, .t 20]⟩])
    (.seq (.seq (.reg [⟨some 21, none, .fadr 0, [.t 7]⟩,
      ⟨some 22, none, .load false 1, [.t 21]⟩,
      ⟨some 23, none, .len, [.t 22]⟩,
      ⟨some 24, none, .mv, [.c (.int .i64 0)]⟩])
    (.block 2 (.loop [1, 5, 8, 11, 12, 13, 22, 23, 24] [8] [] [5] (.seq (.reg [⟨some 25, none, .bin .lss, [.t 24, .t 23]⟩])
    (.seq (.cond (.t 25) .skip (.exit 2))
    (.seq (.block 3 (.seq (.reg [⟨some 26, none, .ladr 13, [.t 22, .t 24]⟩,
      ⟨some 27, none, .load true 13, [.t 26]⟩,
      ⟨some 10, none, .alloc [(.int .i64 0), (.int .i64 0), (.int .i64 0), (.int .i64 0), (.int .i64 0), (.int .i64 0), (.int .i64 0), (.bool false), (.bool false), (.str ByteArray.empty), (.int .i64 0), (.int .i64 0), (.int .i64 0)], []⟩,
      ⟨none, none, .store 13, [.t 10, .t 27]⟩])
    (.seq (.reg [⟨some 28, none, .mv, [.t 1]⟩,
      ⟨some 29, none, .load true 13, [.t 10]⟩,
      ⟨some 30, none, .callvh, [.t 28, .t 29]⟩,
      ⟨some 31, none, .un .not, [.t 30]⟩])
    (.cond (.t 31) (.reg [⟨some 32, none, .fadr 0, [.t 8]⟩,
      ⟨some 33, none, .load false 1, [.t 32]⟩,
      ⟨some 34, none, .load true 13, [.t 10]⟩,
      ⟨some 35, none, .bsl false 13 34, [.t 34]⟩,
      ⟨some 36, none, .appr 13 104 34, [.t 33, .t 35]⟩,
      ⟨some 37, none, .fadr 0, [.t 8]⟩,
      ⟨none, none, .store 1, [.t 37, .t 36]⟩]) .skip))))
    (.reg [⟨some 38, none, .bin .add, [.t 24, .c (.int .i64 1)]⟩,
      ⟨some 24, none, .mv, [.t 38]⟩])))))))
    (.reg [⟨some 39, none, .mv, [.t 5]⟩,
      ⟨some 40, none, .fload true 2, [.t 8]⟩,
      ⟨some 41, none, .bsl false 2 43, [.t 40]⟩,
      ⟨some 42, none, .appr 2 48 43, [.t 39, .t 41]⟩,
      ⟨some 5, none, .mv, [.t 42]⟩])))))
    (.reg [⟨some 43, none, .bin .add, [.t 13, .c (.int .i64 1)]⟩,
      ⟨some 13, none, .mv, [.t 43]⟩])))))))
    (.seq (.reg [⟨some 44, none, .mv, [.t 5]⟩,
      ⟨some 4, none, .mv, [.t 44]⟩])
    .ret)))) []

/-- slices.Clone[[]tripwire/api.Fault,tripwire/api.Fault] -/
def c39 : CFn := CFn.mk 1 [.t 2 false]
    (.seq (.reg [⟨some 2, none, .nil false 15 96, []⟩])
    (.seq (.seq (.reg [⟨some 3, none, .mv, [.t 0]⟩,
      ⟨some 4, none, .lnil false, [.t 3]⟩])
    (.cond (.t 4) (.seq (.reg [⟨some 2, none, .nil false 15 96, []⟩])
    .ret) .skip))
    (.seq (.reg [⟨some 5, none, .bsl true 15 96, []⟩,
      ⟨some 6, none, .mv, [.t 0]⟩,
      ⟨some 7, none, .app false 15 64 96, [.t 5, .t 6]⟩,
      ⟨some 2, none, .mv, [.t 7]⟩])
    .ret))) []

/-- tripwire/quiet.Reading -/
def c16 : CFn := CFn.mk 1 [.t 2 false]
    (.seq (.reg [⟨some 1, none, .box, [.t 0]⟩,
      ⟨some 2, none, .mv, [.c (.bool false)]⟩])
    (.seq (.reg [⟨some 3, none, .fadr 0, [.t 1]⟩,
      ⟨some 4, none, .load false 1, [.t 3]⟩,
      ⟨some 5, none, .bin .eql, [.t 4, .c (.int .i64 2)]⟩,
      ⟨some 6, none, .mv, [.t 5]⟩,
      ⟨some 7, (some (6, true)), .fadr 5, [.t 1]⟩,
      ⟨some 8, (some (6, true)), .fadr 2, [.t 7]⟩,
      ⟨some 9, (some (6, true)), .load false 1, [.t 8]⟩,
      ⟨some 10, (some (6, true)), .un .not, [.t 9]⟩,
      ⟨some 11, none, .pick, [.t 6, .t 10, .c (.bool false)]⟩,
      ⟨some 2, none, .mv, [.t 11]⟩])
    .ret)) []

/-- tripwire/tripwireref43.Quiet -/
def c9 : CFn := CFn.mk 1 [.t 2 false]
    (.seq (.reg [⟨some 2, none, .nil false 2 43, []⟩])
    (.seq (.reg [⟨some 8, none, .bsl true 2 43, []⟩,
      ⟨some 3, none, .mv, [.t 8]⟩])
    (.seq (.seq (.reg [⟨some 4, none, .mv, [.c (.int .i64 0)]⟩])
    (.block 0 (.loop [0, 3, 4] [] [8] [] (.seq (.seq (.reg [⟨some 9, none, .mv, [.t 4]⟩,
      ⟨some 10, none, .mv, [.t 0]⟩,
      ⟨some 11, none, .len, [.t 10]⟩,
      ⟨some 12, none, .bin .lss, [.t 9, .t 11]⟩])
    (.cond (.t 12) .skip (.exit 0)))
    (.seq (.block 1 (.seq (.reg [⟨some 15, none, .mv, [.t 0]⟩,
      ⟨some 16, none, .mv, [.t 4]⟩,
      ⟨some 17, none, .ladr 2, [.t 15, .t 16]⟩,
      ⟨some 18, none, .fadr 1, [.t 17]⟩,
      ⟨some 19, none, .load false 1, [.t 18]⟩,
      ⟨some 20, none, .build [(.lst none true 13 []), (.lst none true 15 [])] [(1, 1)], [.t 19]⟩,
      ⟨some 5, none, .alloc [(.lst none true 13 []), (.lst none true 15 [])], []⟩,
      ⟨none, none, .store 2, [.t 5, .t 20]⟩])
    (.seq (.seq (.reg [⟨some 6, none, .mv, [.c (.int .i64 0)]⟩])
    (.block 2 (.loop [0, 3, 4, 5, 6] [5] [8] [] (.seq (.seq (.reg [⟨some 21, none, .mv, [.t 6]⟩,
      ⟨some 22, none, .mv, [.t 0]⟩,
      ⟨some 23, none, .mv, [.t 4]⟩,
      ⟨some 24, none, .ladr 2, [.t 22, .t 23]⟩,
      ⟨some 25, none, .fadr 0, [.t 24]⟩,
      ⟨some 26, none, .load false 1, [.t 25]⟩,
      ⟨some 27, none, .len, [.t 26]⟩,
      ⟨some 28, none, .bin .lss, [.t 21, .t 27]⟩])
    (.cond (.t 28) .skip (.exit 2)))
    (.seq (.block 3 (.seq (.reg [⟨some 31, none, .mv, [.t 0]⟩,
      ⟨some 32, none, .mv, [.t 4]⟩,
      ⟨some 33, none, .ladr 2, [.t 31, .t 32]⟩,
      ⟨some 34, none, .fadr 0, [.t 33]⟩,
      ⟨some 35, none, .load false 1, [.t 34]⟩,
      ⟨some 36, none, .mv, [.t 6]⟩,
      ⟨some 37, none, .ladr 13, [.t 35, .t 36]⟩,
      ⟨some 38, none, .load true 13, [.t 37]⟩,
      ⟨some 7, none, .alloc [(.int .i64 0), (.int .i64 0), (.int .i64 0), (.int .i64 0), (.int .i64 0), (.int .i64 0), (.int .i64 0), (.bool false), (.bool false), (.str ByteArray.empty), (.int .i64 0), (.int .i64 0), (.int .i64 0)], []⟩,
      ⟨none, none, .store 13, [.t 7, .t 38]⟩])
    (.seq (.reg [⟨some 39, none, .fadr 0, [.t 7]⟩,
      ⟨some 40, none, .load false 1, [.t 39]⟩,
      ⟨some 41, none, .bin .neq, [.t 40, .c (.int .i64 2)]⟩,
      ⟨some 42, none, .mv, [.t 41]⟩,
      ⟨some 43, (some (42, false)), .fadr 5, [.t 7]⟩,
      ⟨some 44, (some (42, false)), .fadr 2, [.t 43]⟩,
      ⟨some 45, (some (42, false)), .load false 1, [.t 44]⟩,
      ⟨some 46, none, .pick, [.t 42, .c (.bool true), .t 45]⟩])
    (.cond (.t 46) (.reg [⟨some 47, none, .fadr 0, [.t 5]⟩,
      ⟨some 48, none, .load false 1, [.t 47]⟩,
      ⟨some 49, none, .load true 13, [.t 7]⟩,
      ⟨some 50, none, .bsl false 13 34, [.t 49]⟩,
      ⟨some 51, none, .appr 13 104 34, [.t 48, .t 50]⟩,
      ⟨some 52, none, .fadr 0, [.t 5]⟩,
      ⟨none, none, .store 1, [.t 52, .t 51]⟩]) .skip))))
    (.reg [⟨some 29, none, .mv, [.t 6]⟩,
      ⟨some 30, none, .bin .add, [.t 29, .c (.int .i64 1)]⟩,
      ⟨some 6, none, .mv, [.t 30]⟩]))))))
    (.reg [⟨some 53, none, .mv, [.t 3]⟩,
      ⟨some 54, none, .fload true 2, [.t 5]⟩,
      ⟨some 55, none, .bsl false 2 43, [.t 54]⟩,
      ⟨some 56, none, .app false 2 48 43, [.t 53, .t 55]⟩,
      ⟨some 3, none, .mv, [.t 56]⟩]))))
    (.reg [⟨some 13, none, .mv, [.t 4]⟩,
      ⟨some 14, none, .bin .add, [.t 13, .c (.int .i64 1)]⟩,
      ⟨some 4, none, .mv, [.t 14]⟩]))))))
    (.seq (.reg [⟨some 57, none, .mv, [.t 3]⟩,
      ⟨some 2, none, .mv, [.t 57]⟩])
    .ret)))) []

/-- tripwire/tripwireref36.Same -/
def c8 : CFn := CFn.mk 2 [.t 4 false]
    (.seq (.reg [⟨some 4, none, .mv, [.c (.bool false)]⟩])
    (.seq (.seq (.reg [⟨some 8, none, .mv, [.t 0]⟩,
      ⟨some 9, none, .len, [.t 8]⟩,
      ⟨some 10, none, .mv, [.t 1]⟩,
      ⟨some 11, none, .len, [.t 10]⟩,
      ⟨some 12, none, .bin .neq, [.t 9, .t 11]⟩])
    (.cond (.t 12) (.seq (.reg [⟨some 4, none, .mv, [.c (.bool false)]⟩])
    .ret) .skip))
    (.seq (.seq (.reg [⟨some 5, none, .mv, [.c (.int .i64 0)]⟩])
    (.block 0 (.loop [0, 1, 5] [] [] [] (.seq (.seq (.reg [⟨some 13, none, .mv, [.t 5]⟩,
      ⟨some 14, none, .mv, [.t 0]⟩,
      ⟨some 15, none, .len, [.t 14]⟩,
      ⟨some 16, none, .bin .lss, [.t 13, .t 15]⟩])
    (.cond (.t 16) .skip (.exit 0)))
    (.seq (.block 1 (.seq (.seq (.draw 26 [0, 0, 3, 7, 15, 31, 0, 0, 192, 448, 960, 1984, 4095, 8191, 16383, 16383, 65535, 131071, 262143, 524287, 16383, 16383, 3162111, 7356415, 15745023, 32522239, 67108863, 134217727] [⟨some 19, none, .mv, [.t 0]⟩,
      ⟨some 20, none, .mv, [.t 5]⟩,
      ⟨some 21, none, .ladr 2, [.t 19, .t 20]⟩,
      ⟨some 22, none, .fadr 0, [.t 21]⟩,
      ⟨some 23, none, .load false 1, [.t 22]⟩,
      ⟨some 24, none, .len, [.t 23]⟩,
      ⟨some 25, none, .mv, [.t 1]⟩,
      ⟨some 26, none, .mv, [.t 5]⟩,
      ⟨some 27, none, .ladr 2, [.t 25, .t 26]⟩,
      ⟨some 28, none, .fadr 0, [.t 27]⟩,
      ⟨some 29, none, .load false 1, [.t 28]⟩,
      ⟨some 30, none, .len, [.t 29]⟩,
      ⟨some 31, none, .bin .neq, [.t 24, .t 30]⟩,
      ⟨some 32, none, .mv, [.t 31]⟩,
      ⟨some 33, (some (32, false)), .mv, [.t 0]⟩,
      ⟨some 34, (some (32, false)), .mv, [.t 5]⟩,
      ⟨some 35, (some (32, false)), .ladr 2, [.t 33, .t 34]⟩,
      ⟨some 36, (some (32, false)), .fadr 1, [.t 35]⟩,
      ⟨some 37, (some (32, false)), .load false 1, [.t 36]⟩,
      ⟨some 38, (some (32, false)), .len, [.t 37]⟩,
      ⟨some 39, (some (32, false)), .mv, [.t 1]⟩,
      ⟨some 40, (some (32, false)), .mv, [.t 5]⟩,
      ⟨some 41, (some (32, false)), .ladr 2, [.t 39, .t 40]⟩,
      ⟨some 42, (some (32, false)), .fadr 1, [.t 41]⟩,
      ⟨some 43, (some (32, false)), .load false 1, [.t 42]⟩,
      ⟨some 44, (some (32, false)), .len, [.t 43]⟩,
      ⟨some 45, (some (32, false)), .bin .neq, [.t 38, .t 44]⟩,
      ⟨some 46, none, .pick, [.t 32, .c (.bool true), .t 45]⟩])
    (.cond (.t 46) (.seq (.reg [⟨some 4, none, .mv, [.c (.bool false)]⟩])
    .ret) .skip))
    (.seq (.seq (.reg [⟨some 6, none, .mv, [.c (.int .i64 0)]⟩])
    (.block 2 (.loop [0, 1, 5, 6] [] [] [] (.seq (.seq (.reg [⟨some 47, none, .mv, [.t 6]⟩,
      ⟨some 48, none, .mv, [.t 0]⟩,
      ⟨some 49, none, .mv, [.t 5]⟩,
      ⟨some 50, none, .ladr 2, [.t 48, .t 49]⟩,
      ⟨some 51, none, .fadr 0, [.t 50]⟩,
      ⟨some 52, none, .load false 1, [.t 51]⟩,
      ⟨some 53, none, .len, [.t 52]⟩,
      ⟨some 54, none, .bin .lss, [.t 47, .t 53]⟩])
    (.cond (.t 54) .skip (.exit 2)))
    (.seq (.block 3 (.seq (.draw 16 [0, 0, 3, 7, 15, 0, 63, 127, 0, 0, 768, 1792, 3840, 0, 16128, 32512, 65535] [⟨some 57, none, .mv, [.t 0]⟩,
      ⟨some 58, none, .mv, [.t 5]⟩,
      ⟨some 59, none, .ladr 2, [.t 57, .t 58]⟩,
      ⟨some 60, none, .fadr 0, [.t 59]⟩,
      ⟨some 61, none, .load false 1, [.t 60]⟩,
      ⟨some 62, none, .mv, [.t 6]⟩,
      ⟨some 63, none, .ladr 13, [.t 61, .t 62]⟩,
      ⟨some 64, none, .load true 13, [.t 63]⟩,
      ⟨some 65, none, .mv, [.t 1]⟩,
      ⟨some 66, none, .mv, [.t 5]⟩,
      ⟨some 67, none, .ladr 2, [.t 65, .t 66]⟩,
      ⟨some 68, none, .fadr 0, [.t 67]⟩,
      ⟨some 69, none, .load false 1, [.t 68]⟩,
      ⟨some 70, none, .mv, [.t 6]⟩,
      ⟨some 71, none, .ladr 13, [.t 69, .t 70]⟩,
      ⟨some 72, none, .load true 13, [.t 71]⟩,
      ⟨some 73, none, .eq [(0, 0), (1, 0), (2, 0), (3, 0), (4, 0), (5, 0), (6, 0), (7, 1), (8, 1), (9, 2), (10, 0), (11, 0), (12, 0)] true, [.t 64, .t 72]⟩])
    (.cond (.t 73) (.seq (.reg [⟨some 4, none, .mv, [.c (.bool false)]⟩])
    .ret) .skip)))
    (.reg [⟨some 55, none, .mv, [.t 6]⟩,
      ⟨some 56, none, .bin .add, [.t 55, .c (.int .i64 1)]⟩,
      ⟨some 6, none, .mv, [.t 56]⟩]))))))
    (.seq (.reg [⟨some 7, none, .mv, [.c (.int .i64 0)]⟩])
    (.block 4 (.loop [0, 1, 5, 7] [] [] [] (.seq (.seq (.reg [⟨some 74, none, .mv, [.t 7]⟩,
      ⟨some 75, none, .mv, [.t 0]⟩,
      ⟨some 76, none, .mv, [.t 5]⟩,
      ⟨some 77, none, .ladr 2, [.t 75, .t 76]⟩,
      ⟨some 78, none, .fadr 1, [.t 77]⟩,
      ⟨some 79, none, .load false 1, [.t 78]⟩,
      ⟨some 80, none, .len, [.t 79]⟩,
      ⟨some 81, none, .bin .lss, [.t 74, .t 80]⟩])
    (.cond (.t 81) .skip (.exit 4)))
    (.seq (.block 5 (.seq (.draw 16 [0, 0, 3, 7, 15, 0, 63, 127, 0, 0, 768, 1792, 3840, 0, 16128, 32512, 65535] [⟨some 84, none, .mv, [.t 0]⟩,
      ⟨some 85, none, .mv, [.t 5]⟩,
      ⟨some 86, none, .ladr 2, [.t 84, .t 85]⟩,
      ⟨some 87, none, .fadr 1, [.t 86]⟩,
      ⟨some 88, none, .load false 1, [.t 87]⟩,
      ⟨some 89, none, .mv, [.t 7]⟩,
      ⟨some 90, none, .ladr 15, [.t 88, .t 89]⟩,
      ⟨some 91, none, .load true 15, [.t 90]⟩,
      ⟨some 92, none, .mv, [.t 1]⟩,
      ⟨some 93, none, .mv, [.t 5]⟩,
      ⟨some 94, none, .ladr 2, [.t 92, .t 93]⟩,
      ⟨some 95, none, .fadr 1, [.t 94]⟩,
      ⟨some 96, none, .load false 1, [.t 95]⟩,
      ⟨some 97, none, .mv, [.t 7]⟩,
      ⟨some 98, none, .ladr 15, [.t 96, .t 97]⟩,
      ⟨some 99, none, .load true 15, [.t 98]⟩,
      ⟨some 100, none, .eq [(0, 0), (1, 0), (2, 0), (3, 0), (4, 0), (5, 1), (6, 0), (7, 0), (8, 0), (9, 0), (10, 0), (11, 0), (12, 0), (13, 0), (14, 0)] true, [.t 91, .t 99]⟩])
    (.cond (.t 100) (.seq (.reg [⟨some 4, none, .mv, [.c (.bool false)]⟩])
    .ret) .skip)))
    (.reg [⟨some 82, none, .mv, [.t 7]⟩,
      ⟨some 83, none, .bin .add, [.t 82, .c (.int .i64 1)]⟩,
      ⟨some 7, none, .mv, [.t 83]⟩])))))))))
    (.reg [⟨some 17, none, .mv, [.t 5]⟩,
      ⟨some 18, none, .bin .add, [.t 17, .c (.int .i64 1)]⟩,
      ⟨some 5, none, .mv, [.t 18]⟩]))))))
    (.seq (.reg [⟨some 4, none, .mv, [.c (.bool true)]⟩])
    .ret)))) []

/-- tripwire/quiet.Clean -/
def c10 : CFn := CFn.mk 1 [.t 2 false]
    (.seq (.reg [⟨some 2, none, .nil false 2 43, []⟩])
    (.seq (.reg [⟨some 5, none, .mv, [.t 0]⟩,
      ⟨some 6, none, .call 14 true, [.t 5, .c (.fn 38 [])]⟩,
      ⟨some 3, none, .mv, [.t 6]⟩])
    (.seq (.seq (.reg [⟨some 7, none, .mv, [.t 3]⟩,
      ⟨some 8, none, .len, [.t 7]⟩,
      ⟨some 9, none, .mv, [.c (.int .i64 0)]⟩])
    (.block 0 (.loop [3, 8, 9] [] [] [3] (.seq (.reg [⟨some 10, none, .bin .lss, [.t 9, .t 8]⟩])
    (.seq (.cond (.t 10) .skip (.exit 0))
    (.seq (.block 1 (.seq (.reg [⟨some 11, none, .mv, [.t 9]⟩,
      ⟨some 4, none, .mv, [.t 11]⟩])
    (.reg [⟨some 12, none, .mv, [.t 3]⟩,
      ⟨some 13, none, .mv, [.t 4]⟩,
      ⟨some 14, none, .ladr 2, [.t 12, .t 13]⟩,
      ⟨some 15, none, .fadr 1, [.t 14]⟩,
      ⟨none, none, .store 1, [.t 15, .c (.lst none true 15 [])]⟩])))
    (.reg [⟨some 16, none, .bin .add, [.t 9, .c (.int .i64 1)]⟩,
      ⟨some 9, none, .mv, [.t 16]⟩])))))))
    (.seq (.reg [⟨some 17, none, .mv, [.t 3]⟩,
      ⟨some 2, none, .mv, [.t 17]⟩])
    .ret)))) []

/-- tripwire/quiet.Clean$1 -/
def c38 : CFn := CFn.mk 1 [.t 2 false]
    (.seq (.reg [⟨some 1, none, .box, [.t 0]⟩,
      ⟨some 2, none, .mv, [.c (.bool false)]⟩])
    (.seq (.reg [⟨some 2, none, .mv, [.c (.bool false)]⟩])
    .ret)) []

/-- tripwire/tripwireref43.Clean -/
def c11 : CFn := CFn.mk 1 [.t 2 false]
    (.seq (.reg [⟨some 2, none, .nil false 2 43, []⟩])
    (.seq (.reg [⟨some 5, none, .bsl true 2 43, []⟩,
      ⟨some 3, none, .mv, [.t 5]⟩])
    (.seq (.seq (.reg [⟨some 4, none, .mv, [.c (.int .i64 0)]⟩])
    (.block 0 (.loop [0, 3, 4] [] [5] [] (.seq (.seq (.reg [⟨some 6, none, .mv, [.t 4]⟩,
      ⟨some 7, none, .mv, [.t 0]⟩,
      ⟨some 8, none, .len, [.t 7]⟩,
      ⟨some 9, none, .bin .lss, [.t 6, .t 8]⟩])
    (.cond (.t 9) .skip (.exit 0)))
    (.seq (.block 1 (.reg [⟨some 12, none, .mv, [.t 3]⟩,
      ⟨some 13, none, .mv, [.t 0]⟩,
      ⟨some 14, none, .mv, [.t 4]⟩,
      ⟨some 15, none, .ladr 2, [.t 13, .t 14]⟩,
      ⟨some 16, none, .fadr 0, [.t 15]⟩,
      ⟨some 17, none, .load false 1, [.t 16]⟩,
      ⟨some 18, none, .build [(.lst none true 13 []), (.lst none true 15 [])] [(0, 1)], [.t 17]⟩,
      ⟨some 19, none, .bsl false 2 43, [.t 18]⟩,
      ⟨some 20, none, .app false 2 48 43, [.t 12, .t 19]⟩,
      ⟨some 3, none, .mv, [.t 20]⟩]))
    (.reg [⟨some 10, none, .mv, [.t 4]⟩,
      ⟨some 11, none, .bin .add, [.t 10, .c (.int .i64 1)]⟩,
      ⟨some 4, none, .mv, [.t 11]⟩]))))))
    (.seq (.reg [⟨some 21, none, .mv, [.t 3]⟩,
      ⟨some 2, none, .mv, [.t 21]⟩])
    .ret)))) []

/-- tripwire/tripwirelaw43.QuietScripts$1 -/
def c12 : CFn := CFn.mk 1 [.t 2 false]
    (.seq (.reg [⟨some 1, none, .box, [.t 0]⟩,
      ⟨some 2, none, .mv, [.c (.bool false)]⟩])
    (.seq (.reg [⟨some 3, none, .fadr 0, [.t 1]⟩,
      ⟨some 4, none, .load false 1, [.t 3]⟩,
      ⟨some 5, none, .bin .eql, [.t 4, .c (.int .i64 2)]⟩,
      ⟨some 6, none, .mv, [.t 5]⟩,
      ⟨some 7, (some (6, true)), .fadr 5, [.t 1]⟩,
      ⟨some 8, (some (6, true)), .fadr 2, [.t 7]⟩,
      ⟨some 9, (some (6, true)), .load false 1, [.t 8]⟩,
      ⟨some 10, (some (6, true)), .un .not, [.t 9]⟩,
      ⟨some 11, none, .pick, [.t 6, .t 10, .c (.bool false)]⟩,
      ⟨some 2, none, .mv, [.t 11]⟩])
    .ret)) []

/-- tripwire/tripwirelaw43.QuietScripts$2 -/
def c13 : CFn := CFn.mk 1 [.t 2 false]
    (.seq (.reg [⟨some 1, none, .box, [.t 0]⟩,
      ⟨some 2, none, .mv, [.c (.bool false)]⟩])
    (.seq (.reg [⟨some 2, none, .mv, [.c (.bool false)]⟩])
    .ret)) []

/-- tripwire/quiet.Acts -/
def c15 : CFn := CFn.mk 1 [.t 2 false]
    (.seq (.reg [⟨some 1, none, .box, [.t 0]⟩,
      ⟨some 2, none, .mv, [.c .nilfn]⟩])
    (.seq (.reg [⟨some 3, none, .mkf 40, [.t 1]⟩,
      ⟨some 2, none, .mv, [.t 3]⟩])
    .ret)) []

/-- tripwire/quiet.Acts$1 -/
def c40 : CFn := CFn.mk 2 []
    (.seq (.reg [⟨some 7, none, .load false 1, [.t 1]⟩,
      ⟨some 8, none, .len, [.t 7]⟩,
      ⟨some 9, none, .mv, [.c (.int .i64 0)]⟩])
    (.block 0 (.loop [0, 7, 8, 9] [] [] [] (.seq (.reg [⟨some 10, none, .bin .lss, [.t 9, .t 8]⟩])
    (.seq (.cond (.t 10) .skip (.exit 0))
    (.seq (.block 1 (.seq (.reg [⟨some 11, none, .mv, [.t 9]⟩,
      ⟨some 12, none, .ladr 2, [.t 7, .t 9]⟩,
      ⟨some 13, none, .load true 2, [.t 12]⟩,
      ⟨some 4, none, .alloc [(.lst none true 13 []), (.lst none true 15 [])], []⟩,
      ⟨some 3, none, .mv, [.t 11]⟩,
      ⟨none, none, .store 2, [.t 4, .t 13]⟩])
    (.seq (.reg [⟨some 14, none, .fadr 0, [.t 4]⟩,
      ⟨some 15, none, .load false 1, [.t 14]⟩,
      ⟨some 16, none, .len, [.t 15]⟩,
      ⟨some 17, none, .mv, [.c (.int .i64 0)]⟩])
    (.block 2 (.loop [0, 3, 7, 8, 9, 15, 16, 17] [] [] [] (.seq (.reg [⟨some 18, none, .bin .lss, [.t 17, .t 16]⟩])
    (.seq (.cond (.t 18) .skip (.exit 2))
    (.seq (.block 3 (.seq (.reg [⟨some 19, none, .ladr 13, [.t 15, .t 17]⟩,
      ⟨some 20, none, .load true 13, [.t 19]⟩,
      ⟨some 6, none, .alloc [(.int .i64 0), (.int .i64 0), (.int .i64 0), (.int .i64 0), (.int .i64 0), (.int .i64 0), (.int .i64 0), (.bool false), (.bool false), (.str ByteArray.empty), (.int .i64 0), (.int .i64 0), (.int .i64 0)], []⟩,
      ⟨none, none, .store 13, [.t 6, .t 20]⟩])
    (.seq (.reg [⟨some 21, none, .mv, [.t 0]⟩,
      ⟨some 22, none, .mv, [.t 3]⟩,
      ⟨some 23, none, .load true 13, [.t 6]⟩,
      ⟨some 24, none, .callv, [.t 21, .t 22, .t 23]⟩,
      ⟨some 25, none, .un .not, [.t 24]⟩])
    (.cond (.t 25) .ret .skip))))
    (.reg [⟨some 26, none, .bin .add, [.t 17, .c (.int .i64 1)]⟩,
      ⟨some 17, none, .mv, [.t 26]⟩])))))))))
    (.reg [⟨some 27, none, .bin .add, [.t 9, .c (.int .i64 1)]⟩,
      ⟨some 9, none, .mv, [.t 27]⟩]))))))) []

/-- tripwire/tripwirelaw43.live -/
def c17 : CFn := CFn.mk 0 [.t 0 false]
    (.seq (.reg [⟨some 0, none, .mv, [.c (.bool false)]⟩])
    (.seq (.reg [⟨some 3, none, .build [(.int .i64 0), (.int .i64 0), (.int .i64 0), (.int .i64 0), (.int .i64 0), (.int .i64 0), (.int .i64 0), (.bool false), (.bool false), (.str ByteArray.empty), (.int .i64 0), (.int .i64 0), (.int .i64 0)] [(0, 1)], [.c (.int .i64 2)]⟩,
      ⟨some 4, none, .build [(.int .i64 0), (.int .i64 0), (.int .i64 0), (.int .i64 0), (.int .i64 0), (.int .i64 0), (.int .i64 0), (.bool false), (.bool false), (.str ByteArray.empty), (.int .i64 0), (.int .i64 0), (.int .i64 0)] [(0, 1)], [.c (.int .i64 1)]⟩,
      ⟨some 5, none, .bsl false 13 34, [.t 3, .t 4]⟩,
      ⟨some 6, none, .build [(.int .i64 0), (.int .i64 0), (.int .u8 0), (.int .i64 0), (.int .i64 0), (.bool false), (.int .i64 0), (.int .u8 0), (.int .u8 0), (.int .u8 0), (.int .u8 0), (.int .u8 0), (.int .u8 0), (.int .u8 0), (.int .u8 0)] [(0, 1)], [.c (.int .i64 1)]⟩,
      ⟨some 7, none, .bsl false 15 96, [.t 6]⟩,
      ⟨some 8, none, .build [(.lst none true 13 []), (.lst none true 15 [])] [(0, 1), (1, 1)], [.t 5, .t 7]⟩,
      ⟨some 9, none, .bsl false 2 43, [.t 8]⟩,
      ⟨some 1, none, .mv, [.t 9]⟩])
    (.seq (.reg [⟨some 10, none, .mv, [.t 1]⟩,
      ⟨some 11, none, .callh 7, [.t 10]⟩,
      ⟨some 2, none, .mv, [.t 11]⟩])
    (.seq (.reg [⟨some 12, none, .mv, [.t 2]⟩,
      ⟨some 13, none, .len, [.t 12]⟩,
      ⟨some 14, none, .bin .eql, [.t 13, .c (.int .i64 1)]⟩,
      ⟨some 15, none, .mv, [.t 14]⟩,
      ⟨some 16, (some (15, true)), .mv, [.t 2]⟩,
      ⟨some 17, (some (15, true)), .ladr 2, [.t 16, .c (.int .i64 0)]⟩,
      ⟨some 18, (some (15, true)), .fadr 0, [.t 17]⟩,
      ⟨some 19, (some (15, true)), .load false 1, [.t 18]⟩,
      ⟨some 20, (some (15, true)), .len, [.t 19]⟩,
      ⟨some 21, (some (15, true)), .bin .eql, [.t 20, .c (.int .i64 1)]⟩,
      ⟨some 22, none, .pick, [.t 15, .t 21, .c (.bool false)]⟩,
      ⟨some 23, none, .mv, [.t 22]⟩,
      ⟨some 24, (some (23, true)), .mv, [.t 2]⟩,
      ⟨some 25, (some (23, true)), .ladr 2, [.t 24, .c (.int .i64 0)]⟩,
      ⟨some 26, (some (23, true)), .fadr 0, [.t 25]⟩,
      ⟨some 27, (some (23, true)), .load false 1, [.t 26]⟩,
      ⟨some 28, (some (23, true)), .ladr 13, [.t 27, .c (.int .i64 0)]⟩,
      ⟨some 29, (some (23, true)), .fadr 0, [.t 28]⟩,
      ⟨some 30, (some (23, true)), .load false 1, [.t 29]⟩,
      ⟨some 31, (some (23, true)), .bin .eql, [.t 30, .c (.int .i64 1)]⟩,
      ⟨some 32, none, .pick, [.t 23, .t 31, .c (.bool false)]⟩,
      ⟨some 33, none, .mv, [.t 32]⟩,
      ⟨some 34, (some (33, true)), .mv, [.t 2]⟩,
      ⟨some 35, (some (33, true)), .ladr 2, [.t 34, .c (.int .i64 0)]⟩,
      ⟨some 36, (some (33, true)), .fadr 1, [.t 35]⟩,
      ⟨some 37, (some (33, true)), .load false 1, [.t 36]⟩,
      ⟨some 38, (some (33, true)), .len, [.t 37]⟩,
      ⟨some 39, (some (33, true)), .bin .eql, [.t 38, .c (.int .i64 1)]⟩,
      ⟨some 40, none, .pick, [.t 33, .t 39, .c (.bool false)]⟩,
      ⟨some 41, none, .mv, [.t 40]⟩,
      ⟨some 42, (some (41, true)), .mv, [.t 1]⟩,
      ⟨some 43, (some (41, true)), .ladr 2, [.t 42, .c (.int .i64 0)]⟩,
      ⟨some 44, (some (41, true)), .fadr 0, [.t 43]⟩,
      ⟨some 45, (some (41, true)), .load false 1, [.t 44]⟩,
      ⟨some 46, (some (41, true)), .len, [.t 45]⟩,
      ⟨some 47, (some (41, true)), .bin .eql, [.t 46, .c (.int .i64 2)]⟩,
      ⟨some 48, none, .pick, [.t 41, .t 47, .c (.bool false)]⟩,
      ⟨some 0, none, .mv, [.t 48]⟩])
    .ret)))) []

def codes : List (Nat × CFn) := [(3, c3), (7, c7), (14, c14), (39, c39), (16, c16), (9, c9), (8, c8), (10, c10), (38, c38), (11, c11), (12, c12), (13, c13), (15, c15), (40, c40), (17, c17)]
theorem k3 : chkAt Try.prog (3, c3) = true := by kernel_rfl
theorem k7 : chkAt Try.prog (7, c7) = true := by kernel_rfl
theorem k14 : chkAt Try.prog (14, c14) = true := by kernel_rfl
theorem k39 : chkAt Try.prog (39, c39) = true := by kernel_rfl
theorem k16 : chkAt Try.prog (16, c16) = true := by kernel_rfl
theorem k9 : chkAt Try.prog (9, c9) = true := by kernel_rfl
theorem k8 : chkAt Try.prog (8, c8) = true := by kernel_rfl
theorem k10 : chkAt Try.prog (10, c10) = true := by kernel_rfl
theorem k38 : chkAt Try.prog (38, c38) = true := by kernel_rfl
theorem k11 : chkAt Try.prog (11, c11) = true := by kernel_rfl
theorem k12 : chkAt Try.prog (12, c12) = true := by kernel_rfl
theorem k13 : chkAt Try.prog (13, c13) = true := by kernel_rfl
theorem k15 : chkAt Try.prog (15, c15) = true := by kernel_rfl
theorem k40 : chkAt Try.prog (40, c40) = true := by kernel_rfl
theorem k17 : chkAt Try.prog (17, c17) = true := by kernel_rfl
abbrev fns := fnsOf codes
theorem knows : Knows Try.prog fns := knows_of (ball_cons k3 (ball_cons k7 (ball_cons k14 (ball_cons k39 (ball_cons k16 (ball_cons k9 (ball_cons k8 (ball_cons k10 (ball_cons k38 (ball_cons k11 (ball_cons k12 (ball_cons k13 (ball_cons k15 (ball_cons k40 (ball_cons k17 ball_nil)))))))))))))))
end Go.Proofs.Ytbbpkkeaddbcnaa.ZJM.QS
