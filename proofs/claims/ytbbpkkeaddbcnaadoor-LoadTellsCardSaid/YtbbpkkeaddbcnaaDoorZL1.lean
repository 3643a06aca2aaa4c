/- Compact codes. -/
import Derived.Test.YtbbpkkeaddbcnaaDoorZJ23
import Derived.Test.YtbbpkkeaddbcnaaDoorProg
import Derived.KernelRfl
namespace Go.Proofs.YtbbpkkeaddbcnaaDoor.ZJM.LD
open Go.Proofs.YtbbpkkeaddbcnaaDoor.ZJM

/-- tripwire/tripwirelaw45.LoadCounts -/
def c3 : CFn := CFn.mk 2 [.t 4 false]
    (.seq (.reg [⟨some 4, none, .mv, [.c (.bool false)]⟩])
    (.seq (.reg [⟨some 5, none, .mv, [.t 0]⟩,
      ⟨some 6, none, .callh 7, [.t 5]⟩,
      ⟨some 0, none, .mv, [.t 6]⟩])
    (.seq (.reg [⟨some 7, none, .callh 8, []⟩,
      ⟨some 8, none, .mv, [.t 7]⟩,
      ⟨some 9, (some (8, true)), .mv, [.t 0]⟩,
      ⟨some 10, (some (8, true)), .callh 9, [.t 9]⟩,
      ⟨some 11, (some (8, true)), .mv, [.t 0]⟩,
      ⟨some 12, (some (8, true)), .callh 10, [.t 11]⟩,
      ⟨some 13, (some (8, true)), .eq [(0, 0), (1, 0), (2, 0), (3, 0), (4, 0), (5, 0), (6, 0), (7, 0), (8, 0), (9, 0), (10, 0), (11, 0), (12, 0), (13, 0), (14, 0), (15, 0), (16, 0), (17, 0), (18, 0), (19, 0), (20, 0), (21, 0), (22, 0), (23, 0), (24, 0), (25, 0), (26, 0), (27, 0), (28, 0), (29, 0), (30, 0), (31, 0)] false, [.t 10, .t 12]⟩,
      ⟨some 14, none, .pick, [.t 8, .t 13, .c (.bool false)]⟩,
      ⟨some 15, none, .mv, [.t 14]⟩,
      ⟨some 16, (some (15, true)), .mv, [.t 1]⟩,
      ⟨some 17, (some (15, true)), .build [(.int .i64 0), (.bool false), (.int .i64 0), (.int .u8 0), (.int .u8 0), (.int .u8 0), (.int .u8 0), (.int .u8 0), (.int .u8 0), (.int .u8 0), (.int .u8 0)] [(0, 1)], [.t 16]⟩,
      ⟨some 18, (some (15, true)), .callh 11, [.t 17]⟩,
      ⟨some 19, (some (15, true)), .mv, [.t 1]⟩,
      ⟨some 20, (some (15, true)), .callh 12, [.t 19]⟩,
      ⟨some 21, (some (15, true)), .bin .eql, [.t 18, .t 20]⟩,
      ⟨some 22, none, .pick, [.t 15, .t 21, .c (.bool false)]⟩,
      ⟨some 4, none, .mv, [.t 22]⟩])
    .ret))) []

/-- tripwire/tripwirelaw45.LoadTells -/
def c4 : CFn := CFn.mk 1 [.t 2 false]
    (.seq (.reg [⟨some 1, none, .box, [.t 0]⟩,
      ⟨some 2, none, .mv, [.c (.bool false)]⟩])
    (.seq (.reg [⟨some 12, none, .load true 32, [.t 1]⟩,
      ⟨some 13, none, .callh 13, [.t 12]⟩,
      ⟨some 11, none, .mv, [.t 13]⟩,
      ⟨some 14, none, .ext 0, [.t 11]⟩,
      ⟨some 15, none, .ext 1, [.t 11]⟩,
      ⟨some 3, none, .mv, [.t 14]⟩,
      ⟨some 4, none, .mv, [.t 15]⟩])
    (.seq (.reg [⟨some 17, none, .load true 32, [.t 1]⟩,
      ⟨some 18, none, .callh 14, [.t 17]⟩,
      ⟨some 16, none, .mv, [.t 18]⟩,
      ⟨some 19, none, .ext 0, [.t 16]⟩,
      ⟨some 20, none, .ext 1, [.t 16]⟩,
      ⟨some 5, none, .mv, [.t 19]⟩,
      ⟨some 6, none, .mv, [.t 20]⟩])
    (.seq (.reg [⟨some 7, none, .mv, [.c (.int .i64 0)]⟩])
    (.seq (.seq (.reg [⟨some 21, none, .fadr 0, [.t 1]⟩,
      ⟨some 22, none, .load false 1, [.t 21]⟩,
      ⟨some 23, none, .bin .geq, [.t 22, .c (.int .i64 1)]⟩,
      ⟨some 24, none, .mv, [.t 23]⟩,
      ⟨some 25, (some (24, true)), .fadr 0, [.t 1]⟩,
      ⟨some 26, (some (24, true)), .load false 1, [.t 25]⟩,
      ⟨some 27, (some (24, true)), .bin .leq, [.t 26, .c (.int .i64 2147483647)]⟩,
      ⟨some 28, none, .pick, [.t 24, .t 27, .c (.bool false)]⟩,
      ⟨some 29, none, .mv, [.t 28]⟩,
      ⟨some 30, (some (29, true)), .fadr 1, [.t 1]⟩,
      ⟨some 31, (some (29, true)), .load false 1, [.t 30]⟩,
      ⟨some 32, (some (29, true)), .bin .geq, [.t 31, .c (.int .i64 0)]⟩,
      ⟨some 33, none, .pick, [.t 29, .t 32, .c (.bool false)]⟩,
      ⟨some 34, none, .mv, [.t 33]⟩,
      ⟨some 35, (some (34, true)), .fadr 1, [.t 1]⟩,
      ⟨some 36, (some (34, true)), .load false 1, [.t 35]⟩,
      ⟨some 37, (some (34, true)), .fadr 0, [.t 1]⟩,
      ⟨some 38, (some (34, true)), .load false 1, [.t 37]⟩,
      ⟨some 39, (some (34, true)), .bin .leq, [.t 36, .t 38]⟩,
      ⟨some 40, none, .pick, [.t 34, .t 39, .c (.bool false)]⟩])
    (.cond (.t 40) (.reg [⟨some 41, none, .fadr 1, [.t 1]⟩,
      ⟨some 42, none, .load false 1, [.t 41]⟩,
      ⟨some 43, none, .bin .mul, [.c (.int .i64 1000), .t 42]⟩,
      ⟨some 44, none, .fadr 0, [.t 1]⟩,
      ⟨some 45, none, .load false 1, [.t 44]⟩,
      ⟨some 46, none, .bin .quo, [.t 43, .t 45]⟩,
      ⟨some 7, none, .mv, [.t 46]⟩]) .skip))
    (.seq (.draw 3 [0, 1, 0, 7, 15, 31] [⟨some 47, none, .load true 32, [.t 1]⟩,
      ⟨some 48, none, .callh 15, [.t 47]⟩,
      ⟨some 49, none, .load true 32, [.t 1]⟩,
      ⟨some 50, none, .callh 16, [.t 49]⟩,
      ⟨some 8, none, .mv, [.t 48]⟩,
      ⟨some 9, none, .mv, [.t 50]⟩])
    (.seq (.seq (.reg [⟨some 51, none, .mv, [.t 3]⟩,
      ⟨some 52, none, .mv, [.t 5]⟩,
      ⟨some 53, none, .bin .neq, [.t 51, .t 52]⟩,
      ⟨some 54, none, .mv, [.t 53]⟩,
      ⟨some 55, (some (54, false)), .mv, [.t 4]⟩,
      ⟨some 56, (some (54, false)), .mv, [.t 6]⟩,
      ⟨some 57, (some (54, false)), .beq true, [.t 55, .t 56]⟩,
      ⟨some 58, none, .pick, [.t 54, .c (.bool true), .t 57]⟩,
      ⟨some 59, none, .mv, [.t 58]⟩,
      ⟨some 60, (some (59, false)), .load true 32, [.t 1]⟩,
      ⟨some 61, (some (59, false)), .callh 17, [.t 60]⟩,
      ⟨some 62, (some (59, false)), .mv, [.t 7]⟩,
      ⟨some 63, (some (59, false)), .bin .neq, [.t 61, .t 62]⟩,
      ⟨some 64, none, .pick, [.t 59, .c (.bool true), .t 63]⟩,
      ⟨some 65, none, .mv, [.t 64]⟩,
      ⟨some 66, (some (65, false)), .mv, [.t 8]⟩,
      ⟨some 67, (some (65, false)), .len, [.t 66]⟩,
      ⟨some 68, (some (65, false)), .mv, [.t 9]⟩,
      ⟨some 69, (some (65, false)), .len, [.t 68]⟩,
      ⟨some 70, (some (65, false)), .bin .neq, [.t 67, .t 69]⟩,
      ⟨some 71, none, .pick, [.t 65, .c (.bool true), .t 70]⟩])
    (.cond (.t 71) (.seq (.reg [⟨some 2, none, .mv, [.c (.bool false)]⟩])
    .ret) .skip))
    (.seq (.seq (.reg [⟨some 10, none, .mv, [.c (.int .i64 0)]⟩])
    (.block 0 (.loop [8, 9, 10] [] [] [] (.seq (.seq (.reg [⟨some 72, none, .mv, [.t 10]⟩,
      ⟨some 73, none, .mv, [.t 8]⟩,
      ⟨some 74, none, .len, [.t 73]⟩,
      ⟨some 75, none, .bin .lss, [.t 72, .t 74]⟩])
    (.cond (.t 75) .skip (.exit 0)))
    (.seq (.block 1 (.seq (.draw 8 [0, 0, 3, 7, 0, 0, 48, 112, 255] [⟨some 78, none, .mv, [.t 8]⟩,
      ⟨some 79, none, .mv, [.t 10]⟩,
      ⟨some 80, none, .ladr 1, [.t 78, .t 79]⟩,
      ⟨some 81, none, .load false 1, [.t 80]⟩,
      ⟨some 82, none, .mv, [.t 9]⟩,
      ⟨some 83, none, .mv, [.t 10]⟩,
      ⟨some 84, none, .ladr 1, [.t 82, .t 83]⟩,
      ⟨some 85, none, .load false 1, [.t 84]⟩,
      ⟨some 86, none, .bin .neq, [.t 81, .t 85]⟩])
    (.cond (.t 86) (.seq (.reg [⟨some 2, none, .mv, [.c (.bool false)]⟩])
    .ret) .skip)))
    (.reg [⟨some 76, none, .mv, [.t 10]⟩,
      ⟨some 77, none, .bin .add, [.t 76, .c (.int .i64 1)]⟩,
      ⟨some 10, none, .mv, [.t 77]⟩]))))))
    (.seq (.reg [⟨some 87, none, .callh 8, []⟩,
      ⟨some 2, none, .mv, [.t 87]⟩])
    .ret))))))))) []

/-- tripwire/tripwirelaw45.LoadWindows -/
def c5 : CFn := CFn.mk 3 [.cell 6 false 1]
    (.seq (.reg [⟨some 3, none, .box, [.t 0]⟩,
      ⟨some 4, none, .box, [.t 1]⟩,
      ⟨some 5, none, .box, [.t 2]⟩,
      ⟨some 6, none, .alloc [(.bool false)], []⟩])
    (.seq (.reg [⟨some 16, none, .load false 1, [.t 4]⟩,
      ⟨some 17, none, .callh 7, [.t 16]⟩,
      ⟨none, none, .store 1, [.t 4, .t 17]⟩])
    (.seq (.reg [⟨some 18, none, .build [(.int .i64 0), (.int .i64 0), (.int .i64 0), (.int .i64 0), (.int .i64 0), (.int .i64 0), (.int .i64 0), (.int .i64 0), (.int .i64 0), (.int .i64 0), (.int .i64 0), (.int .i64 0), (.int .i64 0), (.int .i64 0), (.int .i64 0), (.int .i64 0), (.int .i64 0), (.int .i64 0), (.int .i64 0), (.int .i64 0), (.int .i64 0), (.int .i64 0), (.int .i64 0), (.int .i64 0), (.int .i64 0), (.int .i64 0), (.int .i64 0), (.int .i64 0), (.int .i64 0), (.int .i64 0), (.int .i64 0), (.int .i64 0)] [], []⟩,
      ⟨some 7, none, .alloc [(.int .i64 0)], []⟩,
      ⟨some 8, none, .alloc [(.int .i64 0), (.int .i64 0), (.int .i64 0), (.int .i64 0), (.int .i64 0), (.int .i64 0), (.int .i64 0), (.int .i64 0), (.int .i64 0), (.int .i64 0), (.int .i64 0), (.int .i64 0), (.int .i64 0), (.int .i64 0), (.int .i64 0), (.int .i64 0), (.int .i64 0), (.int .i64 0), (.int .i64 0), (.int .i64 0), (.int .i64 0), (.int .i64 0), (.int .i64 0), (.int .i64 0), (.int .i64 0), (.int .i64 0), (.int .i64 0), (.int .i64 0), (.int .i64 0), (.int .i64 0), (.int .i64 0), (.int .i64 0)], []⟩,
      ⟨some 9, none, .alloc [(.int .i64 0)], []⟩,
      ⟨none, none, .store 1, [.t 7, .c (.int .i64 0)]⟩,
      ⟨none, none, .store 32, [.t 8, .t 18]⟩,
      ⟨none, none, .store 1, [.t 9, .c (.int .i64 0)]⟩])
    (.seq (.reg [⟨some 19, none, .load false 1, [.t 3]⟩,
      ⟨some 20, none, .load false 1, [.t 4]⟩,
      ⟨some 21, none, .call 18 false, [.t 19, .t 20]⟩,
      ⟨some 10, none, .mv, [.t 21]⟩])
    (.seq (.seq (.reg [⟨some 22, none, .mv, [.t 10]⟩,
      ⟨some 23, none, .fnil false, [.t 22]⟩])
    (.cond (.t 23) (.seq (.reg [⟨none, none, .store 1, [.t 6, .c (.bool false)]⟩])
    .ret) .skip))
    (.seq (.seq (.reg [⟨some 24, none, .mv, [.t 10]⟩])
    (.block 0 (.range (.t 24) 500000000 [3, 4, 6, 7, 8, 9] 5 0)))
    (.seq (.reg [⟨some 14, none, .alloc [(.int .i64 0)], []⟩,
      ⟨none, none, .store 1, [.t 14, .c (.int .i64 0)]⟩])
    (.seq (.reg [⟨some 60, none, .load false 1, [.t 3]⟩,
      ⟨some 61, none, .load false 1, [.t 4]⟩,
      ⟨some 62, none, .call 18 false, [.t 60, .t 61]⟩,
      ⟨some 15, none, .mv, [.t 62]⟩])
    (.seq (.seq (.reg [⟨some 63, none, .mv, [.t 15]⟩,
      ⟨some 64, none, .fnil false, [.t 63]⟩])
    (.cond (.t 64) (.seq (.reg [⟨none, none, .store 1, [.t 6, .c (.bool false)]⟩])
    .ret) .skip))
    (.seq (.seq (.reg [⟨some 65, none, .mv, [.t 15]⟩])
    (.block 2 (.range (.t 65) 500000001 [5, 14] 5 1)))
    (.seq (.seq (.reg [⟨some 74, none, .load false 1, [.t 3]⟩,
      ⟨some 75, none, .bin .lss, [.t 74, .c (.int .i64 1)]⟩])
    (.cond (.t 75) (.seq (.reg [⟨some 76, none, .callh 8, []⟩,
      ⟨some 77, none, .mv, [.t 76]⟩,
      ⟨some 78, (some (77, true)), .load false 1, [.t 9]⟩,
      ⟨some 79, (some (77, true)), .bin .eql, [.t 78, .c (.int .i64 0)]⟩,
      ⟨some 80, none, .pick, [.t 77, .t 79, .c (.bool false)]⟩,
      ⟨none, none, .store 1, [.t 6, .t 80]⟩])
    .ret) .skip))
    (.seq (.draw 22 [0, 1, 3, 3, 11, 31, 63, 127, 255, 255, 255, 1279, 3839, 8191, 16383, 32767, 65535, 131071, 262143, 524287, 524287, 1572863, 4194303, 8388607, 16777215, 33554431] [⟨some 81, none, .callh 8, []⟩,
      ⟨some 82, none, .mv, [.t 81]⟩,
      ⟨some 83, (some (82, true)), .load false 1, [.t 7]⟩,
      ⟨some 84, (some (82, true)), .load false 1, [.t 4]⟩,
      ⟨some 85, (some (82, true)), .len, [.t 84]⟩,
      ⟨some 86, (some (82, true)), .bin .eql, [.t 83, .t 85]⟩,
      ⟨some 87, none, .pick, [.t 82, .t 86, .c (.bool false)]⟩,
      ⟨some 88, none, .mv, [.t 87]⟩,
      ⟨some 89, (some (88, true)), .load false 1, [.t 14]⟩,
      ⟨some 90, (some (88, true)), .load false 1, [.t 9]⟩,
      ⟨some 91, (some (88, true)), .load false 1, [.t 5]⟩,
      ⟨some 92, (some (88, true)), .i2i .i64, [.t 91]⟩,
      ⟨some 93, (some (88, true)), .mn, [.t 90, .t 92]⟩,
      ⟨some 94, (some (88, true)), .bin .eql, [.t 89, .t 93]⟩,
      ⟨some 95, none, .pick, [.t 88, .t 94, .c (.bool false)]⟩,
      ⟨some 96, none, .mv, [.t 95]⟩,
      ⟨some 97, (some (96, true)), .load false 1, [.t 4]⟩,
      ⟨some 98, (some (96, true)), .callh 20, [.t 97]⟩,
      ⟨some 99, (some (96, true)), .mv, [.t 98]⟩,
      ⟨some 100, (some (99, false)), .load true 32, [.t 8]⟩,
      ⟨some 101, (some (99, false)), .load false 1, [.t 4]⟩,
      ⟨some 102, (some (99, false)), .callh 10, [.t 101]⟩,
      ⟨some 103, (some (99, false)), .eq [(0, 0), (1, 0), (2, 0), (3, 0), (4, 0), (5, 0), (6, 0), (7, 0), (8, 0), (9, 0), (10, 0), (11, 0), (12, 0), (13, 0), (14, 0), (15, 0), (16, 0), (17, 0), (18, 0), (19, 0), (20, 0), (21, 0), (22, 0), (23, 0), (24, 0), (25, 0), (26, 0), (27, 0), (28, 0), (29, 0), (30, 0), (31, 0)] false, [.t 100, .t 102]⟩,
      ⟨some 104, (some (96, true)), .pick, [.t 99, .c (.bool true), .t 103]⟩,
      ⟨some 105, none, .pick, [.t 96, .t 104, .c (.bool false)]⟩,
      ⟨none, none, .store 1, [.t 6, .t 105]⟩])
    .ret)))))))))))) [Rd.mk [25, 26] [3, 4, 6, 7, 8, 9] (.seq (.reg [⟨some 11, none, .mv, [.t 25]⟩])
    (.reg [⟨some 12, none, .alloc [(.int .i64 0), (.int .i64 0), (.int .i64 0), (.int .i64 0), (.int .i64 0), (.int .i64 0), (.int .i64 0), (.int .i64 0), (.int .i64 0), (.int .i64 0), (.int .i64 0), (.int .i64 0), (.int .i64 0), (.int .i64 0), (.int .i64 0), (.int .i64 0), (.int .i64 0), (.int .i64 0), (.int .i64 0), (.int .i64 0), (.int .i64 0), (.int .i64 0), (.int .i64 0), (.int .i64 0), (.int .i64 0), (.int .i64 0), (.int .i64 0), (.int .i64 0), (.int .i64 0), (.int .i64 0), (.int .i64 0), (.int .i64 0)], []⟩,
      ⟨none, none, .store 32, [.t 12, .t 26]⟩])) (.block 1 (.seq (.seq (.reg [⟨some 27, none, .mv, [.t 11]⟩,
      ⟨some 28, none, .load false 1, [.t 7]⟩,
      ⟨some 29, none, .bin .neq, [.t 27, .t 28]⟩,
      ⟨some 30, none, .mv, [.t 29]⟩,
      ⟨some 31, (some (30, false)), .load false 1, [.t 3]⟩,
      ⟨some 32, (some (30, false)), .bin .lss, [.t 31, .c (.int .i64 1)]⟩,
      ⟨some 33, none, .pick, [.t 30, .c (.bool true), .t 32]⟩])
    (.cond (.t 33) (.seq (.reg [⟨none, none, .store 1, [.t 6, .c (.bool false)]⟩])
    .ret) .skip))
    (.seq (.reg [⟨some 34, none, .mv, [.t 11]⟩,
      ⟨some 35, none, .load false 1, [.t 3]⟩,
      ⟨some 36, none, .load false 1, [.t 4]⟩,
      ⟨some 37, none, .len, [.t 36]⟩,
      ⟨some 38, none, .mv, [.t 11]⟩,
      ⟨some 39, none, .bin .sub, [.t 37, .t 38]⟩,
      ⟨some 40, none, .mn, [.t 35, .t 39]⟩,
      ⟨some 41, none, .bin .add, [.t 34, .t 40]⟩,
      ⟨some 13, none, .mv, [.t 41]⟩])
    (.seq (.seq (.draw 10 [0, 0, 3, 7, 15, 15, 15, 15, 239, 495, 1023, 2047] [⟨some 42, none, .mv, [.t 13]⟩,
      ⟨some 43, none, .mv, [.t 11]⟩,
      ⟨some 44, none, .bin .leq, [.t 42, .t 43]⟩,
      ⟨some 45, none, .mv, [.t 44]⟩,
      ⟨some 46, (some (45, false)), .load true 32, [.t 12]⟩,
      ⟨some 47, (some (45, false)), .load false 1, [.t 4]⟩,
      ⟨some 48, (some (45, false)), .mv, [.t 11]⟩,
      ⟨some 49, (some (45, false)), .mv, [.t 13]⟩,
      ⟨some 50, (some (45, false)), .slcl 6 true true, [.t 47, .t 48, .t 49]⟩,
      ⟨some 51, (some (45, false)), .callh 10, [.t 50]⟩,
      ⟨some 52, (some (45, false)), .eq [(0, 0), (1, 0), (2, 0), (3, 0), (4, 0), (5, 0), (6, 0), (7, 0), (8, 0), (9, 0), (10, 0), (11, 0), (12, 0), (13, 0), (14, 0), (15, 0), (16, 0), (17, 0), (18, 0), (19, 0), (20, 0), (21, 0), (22, 0), (23, 0), (24, 0), (25, 0), (26, 0), (27, 0), (28, 0), (29, 0), (30, 0), (31, 0)] true, [.t 46, .t 51]⟩,
      ⟨some 53, none, .pick, [.t 45, .c (.bool true), .t 52]⟩])
    (.cond (.t 53) (.seq (.reg [⟨none, none, .store 1, [.t 6, .c (.bool false)]⟩])
    .ret) .skip))
    (.seq (.reg [⟨some 54, none, .load true 32, [.t 8]⟩,
      ⟨some 55, none, .load true 32, [.t 12]⟩,
      ⟨some 56, none, .callh 19, [.t 54, .t 55]⟩,
      ⟨none, none, .store 32, [.t 8, .t 56]⟩])
    (.seq (.reg [⟨some 57, none, .mv, [.t 13]⟩,
      ⟨none, none, .store 1, [.t 7, .t 57]⟩])
    (.reg [⟨some 58, none, .load false 1, [.t 9]⟩,
      ⟨some 59, none, .bin .add, [.t 58, .c (.int .i64 1)]⟩,
      ⟨none, none, .store 1, [.t 9, .t 59]⟩]))))))),
    Rd.mk [66, 67] [5, 14] .skip (.block 3 (.seq (.seq (.reg [⟨some 68, none, .load false 1, [.t 14]⟩,
      ⟨some 69, none, .load false 1, [.t 5]⟩,
      ⟨some 70, none, .i2i .i64, [.t 69]⟩,
      ⟨some 71, none, .bin .eql, [.t 68, .t 70]⟩])
    (.cond (.t 71) (.exit 2) .skip))
    (.reg [⟨some 72, none, .load false 1, [.t 14]⟩,
      ⟨some 73, none, .bin .add, [.t 72, .c (.int .i64 1)]⟩,
      ⟨none, none, .store 1, [.t 14, .t 73]⟩])))]

/-- tripwire/tripwirelaw45.LoadAdds -/
def c6 : CFn := CFn.mk 4 [.t 8 false]
    (.seq (.reg [⟨some 6, none, .box, [.t 2]⟩,
      ⟨some 7, none, .box, [.t 3]⟩,
      ⟨some 8, none, .mv, [.c (.bool false)]⟩])
    (.seq (.reg [⟨some 11, none, .mv, [.t 0]⟩,
      ⟨some 12, none, .callh 7, [.t 11]⟩,
      ⟨some 13, none, .mv, [.t 1]⟩,
      ⟨some 14, none, .callh 7, [.t 13]⟩,
      ⟨some 0, none, .mv, [.t 12]⟩,
      ⟨some 1, none, .mv, [.t 14]⟩])
    (.seq (.reg [⟨some 15, none, .bsl true 6 56, []⟩,
      ⟨some 16, none, .mv, [.t 0]⟩,
      ⟨some 17, none, .app false 6 112 56, [.t 15, .t 16]⟩,
      ⟨some 18, none, .mv, [.t 1]⟩,
      ⟨some 19, none, .app false 6 112 56, [.t 17, .t 18]⟩,
      ⟨some 9, none, .mv, [.t 19]⟩])
    (.seq (.reg [⟨some 20, none, .mv, [.t 9]⟩,
      ⟨some 21, none, .callh 9, [.t 20]⟩,
      ⟨some 10, none, .alloc [(.int .i64 0), (.int .i64 0), (.int .i64 0), (.int .i64 0), (.int .i64 0), (.int .i64 0), (.int .i64 0), (.int .i64 0), (.int .i64 0), (.int .i64 0), (.int .i64 0), (.int .i64 0), (.int .i64 0), (.int .i64 0), (.int .i64 0), (.int .i64 0), (.int .i64 0), (.int .i64 0), (.int .i64 0), (.int .i64 0), (.int .i64 0), (.int .i64 0), (.int .i64 0), (.int .i64 0), (.int .i64 0), (.int .i64 0), (.int .i64 0), (.int .i64 0), (.int .i64 0), (.int .i64 0), (.int .i64 0), (.int .i64 0)], []⟩,
      ⟨none, none, .store 32, [.t 10, .t 21]⟩])
    (.seq (.seq (.reg [⟨some 22, none, .mv, [.t 0]⟩,
      ⟨some 23, none, .callh 20, [.t 22]⟩,
      ⟨some 24, none, .mv, [.t 23]⟩,
      ⟨some 25, (some (24, false)), .mv, [.t 1]⟩,
      ⟨some 26, (some (24, false)), .callh 20, [.t 25]⟩,
      ⟨some 27, none, .pick, [.t 24, .c (.bool true), .t 26]⟩])
    (.cond (.t 27) (.seq (.draw 7 [0, 1, 3, 3, 15, 3, 3, 127, 255, 511, 1023] [⟨some 28, none, .callh 8, []⟩,
      ⟨some 29, none, .mv, [.t 28]⟩,
      ⟨some 30, (some (29, true)), .load true 32, [.t 6]⟩,
      ⟨some 31, (some (29, true)), .load true 32, [.t 7]⟩,
      ⟨some 32, (some (29, true)), .callh 21, [.t 30, .t 31]⟩,
      ⟨some 33, (some (29, true)), .load true 32, [.t 6]⟩,
      ⟨some 34, (some (29, true)), .load true 32, [.t 7]⟩,
      ⟨some 35, (some (29, true)), .callh 19, [.t 33, .t 34]⟩,
      ⟨some 36, (some (29, true)), .eq [(0, 0), (1, 0), (2, 0), (3, 0), (4, 0), (5, 0), (6, 0), (7, 0), (8, 0), (9, 0), (10, 0), (11, 0), (12, 0), (13, 0), (14, 0), (15, 0), (16, 0), (17, 0), (18, 0), (19, 0), (20, 0), (21, 0), (22, 0), (23, 0), (24, 0), (25, 0), (26, 0), (27, 0), (28, 0), (29, 0), (30, 0), (31, 0)] false, [.t 32, .t 35]⟩,
      ⟨some 37, none, .pick, [.t 29, .t 36, .c (.bool false)]⟩,
      ⟨some 8, none, .mv, [.t 37]⟩])
    .ret) .skip))
    (.seq (.draw 16 [0, 1, 3, 7, 3, 31, 63, 3, 255, 511, 1023, 2047, 2047, 8191, 2047, 2047, 65535, 131071, 262143, 524287] [⟨some 38, none, .callh 8, []⟩,
      ⟨some 39, none, .mv, [.t 38]⟩,
      ⟨some 40, (some (39, true)), .mv, [.t 0]⟩,
      ⟨some 41, (some (39, true)), .callh 9, [.t 40]⟩,
      ⟨some 42, (some (39, true)), .mv, [.t 1]⟩,
      ⟨some 43, (some (39, true)), .callh 9, [.t 42]⟩,
      ⟨some 44, (some (39, true)), .callh 21, [.t 41, .t 43]⟩,
      ⟨some 45, (some (39, true)), .load true 32, [.t 10]⟩,
      ⟨some 46, (some (39, true)), .eq [(0, 0), (1, 0), (2, 0), (3, 0), (4, 0), (5, 0), (6, 0), (7, 0), (8, 0), (9, 0), (10, 0), (11, 0), (12, 0), (13, 0), (14, 0), (15, 0), (16, 0), (17, 0), (18, 0), (19, 0), (20, 0), (21, 0), (22, 0), (23, 0), (24, 0), (25, 0), (26, 0), (27, 0), (28, 0), (29, 0), (30, 0), (31, 0)] false, [.t 44, .t 45]⟩,
      ⟨some 47, none, .pick, [.t 39, .t 46, .c (.bool false)]⟩,
      ⟨some 48, none, .mv, [.t 47]⟩,
      ⟨some 49, (some (48, true)), .load true 32, [.t 6]⟩,
      ⟨some 50, (some (48, true)), .load true 32, [.t 7]⟩,
      ⟨some 51, (some (48, true)), .callh 21, [.t 49, .t 50]⟩,
      ⟨some 52, (some (48, true)), .load true 32, [.t 6]⟩,
      ⟨some 53, (some (48, true)), .load true 32, [.t 7]⟩,
      ⟨some 54, (some (48, true)), .callh 19, [.t 52, .t 53]⟩,
      ⟨some 55, (some (48, true)), .eq [(0, 0), (1, 0), (2, 0), (3, 0), (4, 0), (5, 0), (6, 0), (7, 0), (8, 0), (9, 0), (10, 0), (11, 0), (12, 0), (13, 0), (14, 0), (15, 0), (16, 0), (17, 0), (18, 0), (19, 0), (20, 0), (21, 0), (22, 0), (23, 0), (24, 0), (25, 0), (26, 0), (27, 0), (28, 0), (29, 0), (30, 0), (31, 0)] false, [.t 51, .t 54]⟩,
      ⟨some 56, none, .pick, [.t 48, .t 55, .c (.bool false)]⟩,
      ⟨some 8, none, .mv, [.t 56]⟩])
    .ret)))))) []

/-- tripwire/tripwirelaw45.few -/
def c7 : CFn := CFn.mk 1 [.t 2 false]
    (.seq (.reg [⟨some 2, none, .nil false 6 56, []⟩])
    (.seq (.reg [⟨some 6, none, .bsl true 6 56, []⟩,
      ⟨some 3, none, .mv, [.t 6]⟩])
    (.seq (.seq (.reg [⟨some 4, none, .mv, [.c (.int .i64 0)]⟩])
    (.block 0 (.loop [0, 3, 4] [] [6] [] (.seq (.seq (.reg [⟨some 7, none, .mv, [.t 4]⟩,
      ⟨some 8, none, .mv, [.t 0]⟩,
      ⟨some 9, none, .len, [.t 8]⟩,
      ⟨some 10, none, .bin .lss, [.t 7, .t 9]⟩,
      ⟨some 11, none, .mv, [.t 10]⟩,
      ⟨some 12, (some (11, true)), .mv, [.t 4]⟩,
      ⟨some 13, (some (11, true)), .bin .lss, [.t 12, .c (.int .i64 20)]⟩,
      ⟨some 14, none, .pick, [.t 11, .t 13, .c (.bool false)]⟩])
    (.cond (.t 14) .skip (.exit 0)))
    (.seq (.block 1 (.seq (.reg [⟨some 17, none, .mv, [.t 0]⟩,
      ⟨some 18, none, .mv, [.t 4]⟩,
      ⟨some 19, none, .ladr 6, [.t 17, .t 18]⟩,
      ⟨some 20, none, .load true 6, [.t 19]⟩,
      ⟨some 5, none, .alloc [(.int .i64 0), (.lst none true 1 []), (.lst none true 12 []), (.lst none true 14 []), (.lst none true 5 []), (.int .i64 0)], []⟩,
      ⟨none, none, .store 6, [.t 5, .t 20]⟩])
    (.seq (.reg [⟨some 21, none, .fadr 2, [.t 5]⟩,
      ⟨some 22, none, .load false 1, [.t 21]⟩,
      ⟨some 23, none, .fadr 2, [.t 5]⟩,
      ⟨some 24, none, .load false 1, [.t 23]⟩,
      ⟨some 25, none, .len, [.t 24]⟩,
      ⟨some 26, none, .mn, [.t 25, .c (.int .i64 5)]⟩,
      ⟨some 27, none, .slcl 12 false true, [.t 22, .t 26]⟩,
      ⟨some 28, none, .fadr 2, [.t 5]⟩,
      ⟨none, none, .store 1, [.t 28, .t 27]⟩])
    (.seq (.reg [⟨some 29, none, .fadr 3, [.t 5]⟩,
      ⟨some 30, none, .load false 1, [.t 29]⟩,
      ⟨some 31, none, .fadr 3, [.t 5]⟩,
      ⟨some 32, none, .load false 1, [.t 31]⟩,
      ⟨some 33, none, .len, [.t 32]⟩,
      ⟨some 34, none, .mn, [.t 33, .c (.int .i64 5)]⟩,
      ⟨some 35, none, .slcl 14 false true, [.t 30, .t 34]⟩,
      ⟨some 36, none, .fadr 3, [.t 5]⟩,
      ⟨none, none, .store 1, [.t 36, .t 35]⟩])
    (.seq (.reg [⟨some 37, none, .fadr 4, [.t 5]⟩,
      ⟨some 38, none, .load false 1, [.t 37]⟩,
      ⟨some 39, none, .fadr 4, [.t 5]⟩,
      ⟨some 40, none, .load false 1, [.t 39]⟩,
      ⟨some 41, none, .len, [.t 40]⟩,
      ⟨some 42, none, .mn, [.t 41, .c (.int .i64 5)]⟩,
      ⟨some 43, none, .slcl 5 false true, [.t 38, .t 42]⟩,
      ⟨some 44, none, .fadr 4, [.t 5]⟩,
      ⟨none, none, .store 1, [.t 44, .t 43]⟩])
    (.reg [⟨some 45, none, .mv, [.t 3]⟩,
      ⟨some 46, none, .load true 6, [.t 5]⟩,
      ⟨some 47, none, .bsl false 6 56, [.t 46]⟩,
      ⟨some 48, none, .app false 6 112 56, [.t 45, .t 47]⟩,
      ⟨some 3, none, .mv, [.t 48]⟩]))))))
    (.reg [⟨some 15, none, .mv, [.t 4]⟩,
      ⟨some 16, none, .bin .add, [.t 15, .c (.int .i64 1)]⟩,
      ⟨some 4, none, .mv, [.t 16]⟩]))))))
    (.seq (.reg [⟨some 49, none, .mv, [.t 3]⟩,
      ⟨some 2, none, .mv, [.t 49]⟩])
    .ret)))) []

/-- tripwire/tripwirelaw45.live -/
def c8 : CFn := CFn.mk 0 [.t 0 false]
    (.seq (.reg [⟨some 0, none, .mv, [.c (.bool false)]⟩])
    (.seq (.reg [⟨some 3, none, .build [(.int .i64 0), (.bool false), (.int .i64 0), (.int .u8 0), (.int .u8 0), (.int .u8 0), (.int .u8 0), (.int .u8 0), (.int .u8 0), (.int .u8 0), (.int .u8 0)] [(0, 1), (2, 1)], [.c (.int .i64 257), .c (.int .i64 1)]⟩,
      ⟨some 4, none, .build [(.int .i64 0), (.int .i64 0), (.bool false), (.int .i64 0), (.int .u8 0), (.int .u8 0), (.int .u8 0), (.int .u8 0), (.int .u8 0), (.int .u8 0), (.int .u8 0), (.int .u8 0)] [(0, 1), (1, 11)], [.c (.int .i64 2), .t 3]⟩,
      ⟨some 5, none, .bsl false 12 58, [.t 4]⟩,
      ⟨some 6, none, .build [(.int .i64 0), (.lst none true 1 []), (.lst none true 12 []), (.lst none true 14 []), (.lst none true 5 []), (.int .i64 0)] [(2, 1)], [.t 5]⟩,
      ⟨some 7, none, .bsl false 6 56, [.t 6]⟩,
      ⟨some 8, none, .callh 9, [.t 7]⟩,
      ⟨some 1, none, .alloc [(.int .i64 0), (.int .i64 0), (.int .i64 0), (.int .i64 0), (.int .i64 0), (.int .i64 0), (.int .i64 0), (.int .i64 0), (.int .i64 0), (.int .i64 0), (.int .i64 0), (.int .i64 0), (.int .i64 0), (.int .i64 0), (.int .i64 0), (.int .i64 0), (.int .i64 0), (.int .i64 0), (.int .i64 0), (.int .i64 0), (.int .i64 0), (.int .i64 0), (.int .i64 0), (.int .i64 0), (.int .i64 0), (.int .i64 0), (.int .i64 0), (.int .i64 0), (.int .i64 0), (.int .i64 0), (.int .i64 0), (.int .i64 0)], []⟩,
      ⟨none, none, .store 32, [.t 1, .t 8]⟩])
    (.seq (.reg [⟨some 9, none, .load true 32, [.t 1]⟩,
      ⟨some 10, none, .callh 15, [.t 9]⟩,
      ⟨some 2, none, .mv, [.t 10]⟩])
    (.seq (.reg [⟨some 11, none, .fadr 1, [.t 1]⟩,
      ⟨some 12, none, .load false 1, [.t 11]⟩,
      ⟨some 13, none, .bin .eql, [.t 12, .c (.int .i64 1)]⟩,
      ⟨some 14, none, .mv, [.t 13]⟩,
      ⟨some 15, (some (14, true)), .fadr 2, [.t 1]⟩,
      ⟨some 16, (some (14, true)), .aadr 1 8, [.t 15, .c (.int .i64 4)]⟩,
      ⟨some 17, (some (14, true)), .load false 1, [.t 16]⟩,
      ⟨some 18, (some (14, true)), .bin .eql, [.t 17, .c (.int .i64 1)]⟩,
      ⟨some 19, none, .pick, [.t 14, .t 18, .c (.bool false)]⟩,
      ⟨some 20, none, .mv, [.t 19]⟩,
      ⟨some 21, (some (20, true)), .fadr 10, [.t 1]⟩,
      ⟨some 22, (some (20, true)), .aadr 1 17, [.t 21, .c (.int .i64 2)]⟩,
      ⟨some 23, (some (20, true)), .load false 1, [.t 22]⟩,
      ⟨some 24, (some (20, true)), .bin .eql, [.t 23, .c (.int .i64 1)]⟩,
      ⟨some 25, none, .pick, [.t 20, .t 24, .c (.bool false)]⟩,
      ⟨some 26, none, .mv, [.t 25]⟩,
      ⟨some 27, (some (26, true)), .mv, [.t 2]⟩,
      ⟨some 28, (some (26, true)), .len, [.t 27]⟩,
      ⟨some 29, (some (26, true)), .bin .eql, [.t 28, .c (.int .i64 9)]⟩,
      ⟨some 30, none, .pick, [.t 26, .t 29, .c (.bool false)]⟩,
      ⟨some 31, none, .mv, [.t 30]⟩,
      ⟨some 32, (some (31, true)), .mv, [.t 2]⟩,
      ⟨some 33, (some (31, true)), .ladr 1, [.t 32, .c (.int .i64 7)]⟩,
      ⟨some 34, (some (31, true)), .load false 1, [.t 33]⟩,
      ⟨some 35, (some (31, true)), .bin .eql, [.t 34, .c (.str ⟨#[99, 108, 97, 115, 115, 32, 52, 32, 49]⟩)]⟩,
      ⟨some 36, none, .pick, [.t 31, .t 35, .c (.bool false)]⟩,
      ⟨some 37, none, .mv, [.t 36]⟩,
      ⟨some 38, (some (37, true)), .mv, [.t 2]⟩,
      ⟨some 39, (some (37, true)), .ladr 1, [.t 38, .c (.int .i64 8)]⟩,
      ⟨some 40, (some (37, true)), .load false 1, [.t 39]⟩,
      ⟨some 41, (some (37, true)), .bin .eql, [.t 40, .c (.str ⟨#[110, 111, 100, 101, 32, 50, 32, 49]⟩)]⟩,
      ⟨some 42, none, .pick, [.t 37, .t 41, .c (.bool false)]⟩,
      ⟨some 43, none, .mv, [.t 42]⟩,
      ⟨some 44, (some (43, true)), .load true 32, [.t 1]⟩,
      ⟨some 45, (some (43, true)), .callh 17, [.t 44]⟩,
      ⟨some 46, (some (43, true)), .bin .eql, [.t 45, .c (.int .i64 1000)]⟩,
      ⟨some 47, none, .pick, [.t 43, .t 46, .c (.bool false)]⟩,
      ⟨some 0, none, .mv, [.t 47]⟩])
    .ret)))) []

/-- tripwire/load.Of -/
def c9 : CFn := CFn.mk 1 [.cell 2 true 32]
    (.seq (.reg [⟨some 2, none, .alloc [(.int .i64 0), (.int .i64 0), (.int .i64 0), (.int .i64 0), (.int .i64 0), (.int .i64 0), (.int .i64 0), (.int .i64 0), (.int .i64 0), (.int .i64 0), (.int .i64 0), (.int .i64 0), (.int .i64 0), (.int .i64 0), (.int .i64 0), (.int .i64 0), (.int .i64 0), (.int .i64 0), (.int .i64 0), (.int .i64 0), (.int .i64 0), (.int .i64 0), (.int .i64 0), (.int .i64 0), (.int .i64 0), (.int .i64 0), (.int .i64 0), (.int .i64 0), (.int .i64 0), (.int .i64 0), (.int .i64 0), (.int .i64 0)], []⟩])
    (.seq (.reg [⟨some 3, none, .alloc [(.int .i64 0), (.int .i64 0), (.int .i64 0), (.int .i64 0), (.int .i64 0), (.int .i64 0), (.int .i64 0), (.int .i64 0), (.int .i64 0), (.int .i64 0), (.int .i64 0), (.int .i64 0), (.int .i64 0), (.int .i64 0), (.int .i64 0), (.int .i64 0), (.int .i64 0), (.int .i64 0), (.int .i64 0), (.int .i64 0), (.int .i64 0), (.int .i64 0), (.int .i64 0), (.int .i64 0), (.int .i64 0), (.int .i64 0), (.int .i64 0), (.int .i64 0), (.int .i64 0), (.int .i64 0), (.int .i64 0), (.int .i64 0)], []⟩])
    (.seq (.seq (.reg [⟨some 6, none, .mv, [.t 0]⟩,
      ⟨some 7, none, .len, [.t 6]⟩,
      ⟨some 8, none, .mv, [.c (.int .i64 0)]⟩])
    (.block 0 (.loop [2, 3, 6, 7, 8] [2, 3] [] [] (.seq (.reg [⟨some 9, none, .bin .lss, [.t 8, .t 7]⟩])
    (.seq (.cond (.t 9) .skip (.exit 0))
    (.seq (.block 1 (.seq (.reg [⟨some 10, none, .ladr 6, [.t 6, .t 8]⟩,
      ⟨some 11, none, .load true 6, [.t 10]⟩,
      ⟨some 5, none, .alloc [(.int .i64 0), (.lst none true 1 []), (.lst none true 12 []), (.lst none true 14 []), (.lst none true 5 []), (.int .i64 0)], []⟩,
      ⟨none, none, .store 6, [.t 5, .t 11]⟩])
    (.reg [⟨some 12, none, .load true 6, [.t 5]⟩,
      ⟨some 13, none, .call 22 false, [.t 3, .t 12]⟩])))
    (.reg [⟨some 14, none, .bin .add, [.t 8, .c (.int .i64 1)]⟩,
      ⟨some 8, none, .mv, [.t 14]⟩])))))))
    (.seq (.reg [⟨some 15, none, .load true 32, [.t 3]⟩,
      ⟨none, none, .store 32, [.t 2, .t 15]⟩])
    .ret)))) []

/-- tripwire/tripwireref45.Of -/
def c10 : CFn := CFn.mk 1 [.cell 2 true 32]
    (.seq (.reg [⟨some 2, none, .alloc [(.int .i64 0), (.int .i64 0), (.int .i64 0), (.int .i64 0), (.int .i64 0), (.int .i64 0), (.int .i64 0), (.int .i64 0), (.int .i64 0), (.int .i64 0), (.int .i64 0), (.int .i64 0), (.int .i64 0), (.int .i64 0), (.int .i64 0), (.int .i64 0), (.int .i64 0), (.int .i64 0), (.int .i64 0), (.int .i64 0), (.int .i64 0), (.int .i64 0), (.int .i64 0), (.int .i64 0), (.int .i64 0), (.int .i64 0), (.int .i64 0), (.int .i64 0), (.int .i64 0), (.int .i64 0), (.int .i64 0), (.int .i64 0)], []⟩])
    (.seq (.reg [⟨some 10, none, .mv, [.t 0]⟩,
      ⟨some 11, none, .len, [.t 10]⟩,
      ⟨some 12, none, .mv, [.t 0]⟩,
      ⟨some 13, none, .callh 23, [.t 12, .c (.int .i64 3)]⟩,
      ⟨some 14, none, .mv, [.t 0]⟩,
      ⟨some 15, none, .callh 23, [.t 14, .c (.int .i64 2)]⟩,
      ⟨some 16, none, .build [(.int .i64 0), (.int .i64 0), (.int .i64 0), (.int .i64 0), (.int .i64 0), (.int .i64 0), (.int .i64 0), (.int .i64 0), (.int .i64 0), (.int .i64 0), (.int .i64 0), (.int .i64 0), (.int .i64 0), (.int .i64 0), (.int .i64 0), (.int .i64 0), (.int .i64 0), (.int .i64 0), (.int .i64 0), (.int .i64 0), (.int .i64 0), (.int .i64 0), (.int .i64 0), (.int .i64 0), (.int .i64 0), (.int .i64 0), (.int .i64 0), (.int .i64 0), (.int .i64 0), (.int .i64 0), (.int .i64 0), (.int .i64 0)] [(0, 1), (28, 1), (29, 1)], [.t 11, .t 13, .t 15]⟩,
      ⟨some 3, none, .alloc [(.int .i64 0), (.int .i64 0), (.int .i64 0), (.int .i64 0), (.int .i64 0), (.int .i64 0), (.int .i64 0), (.int .i64 0), (.int .i64 0), (.int .i64 0), (.int .i64 0), (.int .i64 0), (.int .i64 0), (.int .i64 0), (.int .i64 0), (.int .i64 0), (.int .i64 0), (.int .i64 0), (.int .i64 0), (.int .i64 0), (.int .i64 0), (.int .i64 0), (.int .i64 0), (.int .i64 0), (.int .i64 0), (.int .i64 0), (.int .i64 0), (.int .i64 0), (.int .i64 0), (.int .i64 0), (.int .i64 0), (.int .i64 0)], []⟩,
      ⟨none, none, .store 32, [.t 3, .t 16]⟩])
    (.seq (.seq (.reg [⟨some 4, none, .mv, [.c (.int .i64 0)]⟩])
    (.block 0 (.loop [0, 2, 3, 4] [2, 3] [] [] (.seq (.seq (.reg [⟨some 17, none, .mv, [.t 4]⟩,
      ⟨some 18, none, .mv, [.t 0]⟩,
      ⟨some 19, none, .len, [.t 18]⟩,
      ⟨some 20, none, .bin .lss, [.t 17, .t 19]⟩])
    (.cond (.t 20) .skip (.exit 0)))
    (.seq (.block 1 (.seq (.seq (.reg [⟨some 23, none, .mv, [.t 0]⟩,
      ⟨some 24, none, .mv, [.t 4]⟩,
      ⟨some 25, none, .ladr 6, [.t 23, .t 24]⟩,
      ⟨some 26, none, .fadr 2, [.t 25]⟩,
      ⟨some 27, none, .load false 1, [.t 26]⟩,
      ⟨some 28, none, .len, [.t 27]⟩,
      ⟨some 29, none, .bin .gtr, [.t 28, .c (.int .i64 0)]⟩])
    (.cond (.t 29) (.reg [⟨some 30, none, .fadr 1, [.t 3]⟩,
      ⟨some 31, none, .load false 1, [.t 30]⟩,
      ⟨some 32, none, .bin .add, [.t 31, .c (.int .i64 1)]⟩,
      ⟨some 33, none, .fadr 1, [.t 3]⟩,
      ⟨none, none, .store 1, [.t 33, .t 32]⟩]) .skip))
    (.seq (.seq (.draw 7 [0, 0, 3, 7, 15, 0, 32, 127] [⟨some 34, none, .mv, [.t 0]⟩,
      ⟨some 35, none, .mv, [.t 4]⟩,
      ⟨some 36, none, .ladr 6, [.t 34, .t 35]⟩,
      ⟨some 37, none, .fadr 5, [.t 36]⟩,
      ⟨some 38, none, .load false 1, [.t 37]⟩,
      ⟨some 39, none, .fadr 31, [.t 3]⟩,
      ⟨some 40, none, .load false 1, [.t 39]⟩,
      ⟨some 41, none, .bin .gtr, [.t 38, .t 40]⟩])
    (.cond (.t 41) (.reg [⟨some 42, none, .mv, [.t 0]⟩,
      ⟨some 43, none, .mv, [.t 4]⟩,
      ⟨some 44, none, .ladr 6, [.t 42, .t 43]⟩,
      ⟨some 45, none, .fadr 5, [.t 44]⟩,
      ⟨some 46, none, .load false 1, [.t 45]⟩,
      ⟨some 47, none, .fadr 31, [.t 3]⟩,
      ⟨none, none, .store 1, [.t 47, .t 46]⟩]) .skip))
    (.seq (.seq (.reg [⟨some 5, none, .mv, [.c (.int .i64 0)]⟩])
    (.block 2 (.loop [0, 2, 3, 4, 5] [2, 3] [] [] (.seq (.seq (.reg [⟨some 48, none, .mv, [.t 5]⟩,
      ⟨some 49, none, .mv, [.t 0]⟩,
      ⟨some 50, none, .mv, [.t 4]⟩,
      ⟨some 51, none, .ladr 6, [.t 49, .t 50]⟩,
      ⟨some 52, none, .fadr 3, [.t 51]⟩,
      ⟨some 53, none, .load false 1, [.t 52]⟩,
      ⟨some 54, none, .len, [.t 53]⟩,
      ⟨some 55, none, .bin .lss, [.t 48, .t 54]⟩])
    (.cond (.t 55) .skip (.exit 2)))
    (.seq (.block 3 (.seq (.reg [⟨some 58, none, .mv, [.t 0]⟩,
      ⟨some 59, none, .mv, [.t 4]⟩,
      ⟨some 60, none, .ladr 6, [.t 58, .t 59]⟩,
      ⟨some 61, none, .fadr 3, [.t 60]⟩,
      ⟨some 62, none, .load false 1, [.t 61]⟩,
      ⟨some 63, none, .mv, [.t 5]⟩,
      ⟨some 64, none, .ladr 14, [.t 62, .t 63]⟩,
      ⟨some 65, none, .fadr 13, [.t 64]⟩,
      ⟨some 66, none, .load false 1, [.t 65]⟩,
      ⟨some 67, none, .un .not, [.t 66]⟩])
    (.cond (.t 67) (.reg [⟨some 68, none, .fadr 27, [.t 3]⟩,
      ⟨some 69, none, .load false 1, [.t 68]⟩,
      ⟨some 70, none, .bin .add, [.t 69, .c (.int .i64 1)]⟩,
      ⟨some 71, none, .fadr 27, [.t 3]⟩,
      ⟨none, none, .store 1, [.t 71, .t 70]⟩]) .skip)))
    (.reg [⟨some 56, none, .mv, [.t 5]⟩,
      ⟨some 57, none, .bin .add, [.t 56, .c (.int .i64 1)]⟩,
      ⟨some 5, none, .mv, [.t 57]⟩]))))))
    (.seq (.reg [⟨some 6, none, .mv, [.c (.int .i64 0)]⟩])
    (.block 4 (.loop [0, 2, 3, 4, 6] [2, 3] [] [] (.seq (.seq (.reg [⟨some 72, none, .mv, [.t 6]⟩,
      ⟨some 73, none, .mv, [.t 0]⟩,
      ⟨some 74, none, .mv, [.t 4]⟩,
      ⟨some 75, none, .ladr 6, [.t 73, .t 74]⟩,
      ⟨some 76, none, .fadr 4, [.t 75]⟩,
      ⟨some 77, none, .load false 1, [.t 76]⟩,
      ⟨some 78, none, .len, [.t 77]⟩,
      ⟨some 79, none, .bin .lss, [.t 72, .t 78]⟩])
    (.cond (.t 79) .skip (.exit 4)))
    (.seq (.block 5 (.seq (.reg [⟨some 82, none, .mv, [.t 0]⟩,
      ⟨some 83, none, .mv, [.t 4]⟩,
      ⟨some 84, none, .ladr 6, [.t 82, .t 83]⟩,
      ⟨some 85, none, .fadr 4, [.t 84]⟩,
      ⟨some 86, none, .load false 1, [.t 85]⟩,
      ⟨some 87, none, .mv, [.t 6]⟩,
      ⟨some 88, none, .ladr 5, [.t 86, .t 87]⟩,
      ⟨some 89, none, .load true 5, [.t 88]⟩,
      ⟨some 7, none, .alloc [(.int .i64 0), (.int .i64 0), (.int .i64 0), (.int .i64 0), (.str ByteArray.empty)], []⟩,
      ⟨none, none, .store 5, [.t 7, .t 89]⟩])
    (.seq (.reg [⟨some 90, none, .fadr 2, [.t 7]⟩,
      ⟨some 91, none, .load false 1, [.t 90]⟩,
      ⟨some 92, none, .bin .eql, [.t 91, .c (.int .i64 6)]⟩,
      ⟨some 93, none, .mv, [.t 92]⟩,
      ⟨some 94, (some (93, true)), .fadr 3, [.t 7]⟩,
      ⟨some 95, (some (93, true)), .load false 1, [.t 94]⟩,
      ⟨some 96, (some (93, true)), .bin .gtr, [.t 95, .c (.int .i64 0)]⟩,
      ⟨some 97, none, .pick, [.t 93, .t 96, .c (.bool false)]⟩,
      ⟨some 98, none, .mv, [.t 97]⟩,
      ⟨some 99, (some (98, true)), .fadr 3, [.t 7]⟩,
      ⟨some 100, (some (98, true)), .load false 1, [.t 99]⟩,
      ⟨some 101, (some (98, true)), .bin .leq, [.t 100, .c (.int .i64 2147483647)]⟩,
      ⟨some 102, none, .pick, [.t 98, .t 101, .c (.bool false)]⟩])
    (.cond (.t 102) (.reg [⟨some 103, none, .fadr 30, [.t 3]⟩,
      ⟨some 104, none, .load false 1, [.t 103]⟩,
      ⟨some 105, none, .fadr 3, [.t 7]⟩,
      ⟨some 106, none, .load false 1, [.t 105]⟩,
      ⟨some 107, none, .bin .add, [.t 104, .t 106]⟩,
      ⟨some 108, none, .fadr 30, [.t 3]⟩,
      ⟨none, none, .store 1, [.t 108, .t 107]⟩]) .skip))))
    (.reg [⟨some 80, none, .mv, [.t 6]⟩,
      ⟨some 81, none, .bin .add, [.t 80, .c (.int .i64 1)]⟩,
      ⟨some 6, none, .mv, [.t 81]⟩]))))))))))
    (.reg [⟨some 21, none, .mv, [.t 4]⟩,
      ⟨some 22, none, .bin .add, [.t 21, .c (.int .i64 1)]⟩,
      ⟨some 4, none, .mv, [.t 22]⟩]))))))
    (.seq (.seq (.reg [⟨some 8, none, .mv, [.c (.int .i64 0)]⟩])
    (.block 6 (.loop [0, 2, 3, 8] [2, 3] [] [] (.seq (.seq (.reg [⟨some 109, none, .mv, [.t 8]⟩,
      ⟨some 110, none, .bin .lss, [.t 109, .c (.int .i64 8)]⟩])
    (.cond (.t 110) .skip (.exit 6)))
    (.seq (.block 7 (.reg [⟨some 113, none, .mv, [.t 8]⟩,
      ⟨some 114, none, .mv, [.t 0]⟩,
      ⟨some 115, none, .mv, [.t 8]⟩,
      ⟨some 116, none, .callh 24, [.t 114, .t 115, .c (.int .i64 (-1))]⟩,
      ⟨some 117, none, .fadr 2, [.t 3]⟩,
      ⟨some 118, none, .aadr 1 8, [.t 117, .t 113]⟩,
      ⟨none, none, .store 1, [.t 118, .t 116]⟩]))
    (.reg [⟨some 111, none, .mv, [.t 8]⟩,
      ⟨some 112, none, .bin .add, [.t 111, .c (.int .i64 1)]⟩,
      ⟨some 8, none, .mv, [.t 112]⟩]))))))
    (.seq (.seq (.reg [⟨some 9, none, .mv, [.c (.int .i64 0)]⟩])
    (.block 8 (.loop [0, 2, 3, 9] [2, 3] [] [] (.seq (.seq (.reg [⟨some 119, none, .mv, [.t 9]⟩,
      ⟨some 120, none, .bin .lss, [.t 119, .c (.int .i64 17)]⟩])
    (.cond (.t 120) .skip (.exit 8)))
    (.seq (.block 9 (.reg [⟨some 123, none, .mv, [.t 9]⟩,
      ⟨some 124, none, .mv, [.t 0]⟩,
      ⟨some 125, none, .mv, [.t 9]⟩,
      ⟨some 126, none, .callh 24, [.t 124, .c (.int .i64 (-1)), .t 125]⟩,
      ⟨some 127, none, .fadr 10, [.t 3]⟩,
      ⟨some 128, none, .aadr 1 17, [.t 127, .t 123]⟩,
      ⟨none, none, .store 1, [.t 128, .t 126]⟩]))
    (.reg [⟨some 121, none, .mv, [.t 9]⟩,
      ⟨some 122, none, .bin .add, [.t 121, .c (.int .i64 1)]⟩,
      ⟨some 9, none, .mv, [.t 122]⟩]))))))
    (.seq (.reg [⟨some 129, none, .load true 32, [.t 3]⟩,
      ⟨none, none, .store 32, [.t 2, .t 129]⟩])
    .ret)))))) []

/-- tripwire/load.Class -/
def c11 : CFn := CFn.mk 1 [.t 2 false]
    (.seq (.reg [⟨some 1, none, .box, [.t 0]⟩,
      ⟨some 2, none, .mv, [.c (.int .i64 0)]⟩])
    (.seq (.seq (.reg [⟨some 4, none, .fadr 0, [.t 1]⟩,
      ⟨some 5, none, .load false 1, [.t 4]⟩,
      ⟨some 3, none, .mv, [.t 5]⟩])
    (.block 0 (.seq (.reg [⟨some 7, none, .mv, [.t 3]⟩,
      ⟨some 8, none, .bin .eql, [.t 7, .c (.int .i64 0)]⟩,
      ⟨some 6, none, .mv, [.t 8]⟩])
    (.cond (.t 6) (.seq (.reg [⟨some 2, none, .mv, [.c (.int .i64 1)]⟩])
    .ret) (.seq (.reg [⟨some 10, none, .mv, [.t 3]⟩,
      ⟨some 11, none, .bin .eql, [.t 10, .c (.int .i64 128)]⟩,
      ⟨some 9, none, .mv, [.t 11]⟩])
    (.cond (.t 9) (.seq (.reg [⟨some 2, none, .mv, [.c (.int .i64 2)]⟩])
    .ret) (.seq (.reg [⟨some 13, none, .mv, [.t 3]⟩,
      ⟨some 14, none, .callh 25, [.t 13, .c (.int .i64 129), .c (.int .i64 255)]⟩,
      ⟨some 12, none, .mv, [.t 14]⟩])
    (.cond (.t 12) (.seq (.reg [⟨some 2, none, .mv, [.c (.int .i64 3)]⟩])
    .ret) (.seq (.reg [⟨some 16, none, .mv, [.t 3]⟩,
      ⟨some 17, none, .callh 25, [.t 16, .c (.int .i64 257), .c (.int .i64 384)]⟩,
      ⟨some 15, none, .mv, [.t 17]⟩])
    (.cond (.t 15) (.seq (.reg [⟨some 2, none, .mv, [.c (.int .i64 4)]⟩])
    .ret) (.seq (.reg [⟨some 19, none, .mv, [.t 3]⟩,
      ⟨some 20, none, .callh 25, [.t 19, .c (.int .i64 385), .c (.int .i64 1407)]⟩,
      ⟨some 18, none, .mv, [.t 20]⟩])
    (.cond (.t 18) (.seq (.reg [⟨some 2, none, .mv, [.c (.int .i64 5)]⟩])
    .ret) (.seq (.reg [⟨some 22, none, .mv, [.t 3]⟩,
      ⟨some 23, none, .callh 25, [.t 22, .c (.int .i64 1408), .c (.int .i64 1663)]⟩,
      ⟨some 21, none, .mv, [.t 23]⟩])
    (.cond (.t 21) (.seq (.reg [⟨some 2, none, .mv, [.c (.int .i64 6)]⟩])
    .ret) (.seq (.reg [⟨some 25, none, .mv, [.t 3]⟩,
      ⟨some 26, none, .callh 25, [.t 25, .c (.int .i64 1793), .c (.int .i64 1919)]⟩,
      ⟨some 24, none, .mv, [.t 26]⟩])
    (.cond (.t 24) (.seq (.reg [⟨some 2, none, .mv, [.c (.int .i64 7)]⟩])
    .ret) .skip))))))))))))))))
    (.seq (.reg [⟨some 2, none, .mv, [.c (.int .i64 0)]⟩])
    .ret))) []

/-- tripwire/tripwireref45.Class -/
def c12 : CFn := CFn.mk 1 [.t 2 false]
    (.seq (.reg [⟨some 2, none, .mv, [.c (.int .i64 0)]⟩])
    (.seq (.reg [⟨some 6, none, .bsl false 1 3, [.c (.int .i64 0), .c (.int .i64 128), .c (.int .i64 129), .c (.int .i64 257), .c (.int .i64 385), .c (.int .i64 1408), .c (.int .i64 1793)]⟩,
      ⟨some 3, none, .mv, [.t 6]⟩])
    (.seq (.reg [⟨some 7, none, .bsl false 1 3, [.c (.int .i64 0), .c (.int .i64 128), .c (.int .i64 255), .c (.int .i64 384), .c (.int .i64 1407), .c (.int .i64 1663), .c (.int .i64 1919)]⟩,
      ⟨some 4, none, .mv, [.t 7]⟩])
    (.seq (.seq (.reg [⟨some 5, none, .mv, [.c (.int .i64 0)]⟩])
    (.block 0 (.loop [0, 3, 4, 5] [] [] [] (.seq (.seq (.reg [⟨some 8, none, .mv, [.t 5]⟩,
      ⟨some 9, none, .mv, [.t 3]⟩,
      ⟨some 10, none, .len, [.t 9]⟩,
      ⟨some 11, none, .bin .lss, [.t 8, .t 10]⟩])
    (.cond (.t 11) .skip (.exit 0)))
    (.seq (.block 1 (.seq (.reg [⟨some 14, none, .mv, [.t 0]⟩,
      ⟨some 15, none, .mv, [.t 3]⟩,
      ⟨some 16, none, .mv, [.t 5]⟩,
      ⟨some 17, none, .ladr 1, [.t 15, .t 16]⟩,
      ⟨some 18, none, .load false 1, [.t 17]⟩,
      ⟨some 19, none, .bin .geq, [.t 14, .t 18]⟩,
      ⟨some 20, none, .mv, [.t 19]⟩,
      ⟨some 21, (some (20, true)), .mv, [.t 0]⟩,
      ⟨some 22, (some (20, true)), .mv, [.t 4]⟩,
      ⟨some 23, (some (20, true)), .mv, [.t 5]⟩,
      ⟨some 24, (some (20, true)), .ladr 1, [.t 22, .t 23]⟩,
      ⟨some 25, (some (20, true)), .load false 1, [.t 24]⟩,
      ⟨some 26, (some (20, true)), .bin .leq, [.t 21, .t 25]⟩,
      ⟨some 27, none, .pick, [.t 20, .t 26, .c (.bool false)]⟩])
    (.cond (.t 27) (.seq (.reg [⟨some 28, none, .mv, [.t 5]⟩,
      ⟨some 29, none, .bin .add, [.t 28, .c (.int .i64 1)]⟩,
      ⟨some 2, none, .mv, [.t 29]⟩])
    .ret) .skip)))
    (.reg [⟨some 12, none, .mv, [.t 5]⟩,
      ⟨some 13, none, .bin .add, [.t 12, .c (.int .i64 1)]⟩,
      ⟨some 5, none, .mv, [.t 13]⟩]))))))
    (.seq (.reg [⟨some 2, none, .mv, [.c (.int .i64 0)]⟩])
    .ret))))) []

/-- tripwire/load.Busiest -/
def c13 : CFn := CFn.mk 1 [.t 2 false, .t 3 false]
    (.seq (.reg [⟨some 1, none, .box, [.t 0]⟩,
      ⟨some 2, none, .mv, [.c (.int .i64 0)]⟩,
      ⟨some 3, none, .mv, [.c (.bool false)]⟩])
    (.seq (.reg [⟨some 4, none, .mv, [.c (.int .i64 0)]⟩,
      ⟨some 5, none, .mv, [.c (.int .i64 0)]⟩])
    (.seq (.seq (.reg [⟨some 8, none, .fadr 10, [.t 1]⟩,
      ⟨some 9, none, .load true 17, [.t 8]⟩,
      ⟨some 10, none, .mv, [.c (.int .i64 0)]⟩])
    (.block 0 (.loop [4, 5, 9, 10] [] [] [] (.seq (.reg [⟨some 11, none, .bin .lss, [.t 10, .c (.int .i64 17)]⟩])
    (.seq (.cond (.t 11) .skip (.exit 0))
    (.seq (.block 1 (.seq (.reg [⟨some 12, none, .mv, [.t 10]⟩,
      ⟨some 13, none, .ixa 1 17 false, [.t 9, .t 10]⟩,
      ⟨some 6, none, .mv, [.t 12]⟩,
      ⟨some 7, none, .mv, [.t 13]⟩])
    (.seq (.reg [⟨some 14, none, .mv, [.t 6]⟩,
      ⟨some 15, none, .bin .gtr, [.t 14, .c (.int .i64 0)]⟩,
      ⟨some 16, none, .mv, [.t 15]⟩,
      ⟨some 17, (some (16, true)), .mv, [.t 7]⟩,
      ⟨some 18, (some (16, true)), .mv, [.t 5]⟩,
      ⟨some 19, (some (16, true)), .bin .gtr, [.t 17, .t 18]⟩,
      ⟨some 20, none, .pick, [.t 16, .t 19, .c (.bool false)]⟩])
    (.cond (.t 20) (.reg [⟨some 21, none, .mv, [.t 6]⟩,
      ⟨some 22, none, .mv, [.t 7]⟩,
      ⟨some 4, none, .mv, [.t 21]⟩,
      ⟨some 5, none, .mv, [.t 22]⟩]) .skip))))
    (.reg [⟨some 23, none, .bin .add, [.t 10, .c (.int .i64 1)]⟩,
      ⟨some 10, none, .mv, [.t 23]⟩])))))))
    (.seq (.reg [⟨some 24, none, .mv, [.t 4]⟩,
      ⟨some 25, none, .mv, [.t 5]⟩,
      ⟨some 26, none, .bin .gtr, [.t 25, .c (.int .i64 0)]⟩,
      ⟨some 2, none, .mv, [.t 24]⟩,
      ⟨some 3, none, .mv, [.t 26]⟩])
    .ret)))) []

/-- tripwire/tripwireref45.Busiest -/
def c14 : CFn := CFn.mk 1 [.t 2 false, .t 3 false]
    (.seq (.reg [⟨some 1, none, .box, [.t 0]⟩,
      ⟨some 2, none, .mv, [.c (.int .i64 0)]⟩,
      ⟨some 3, none, .mv, [.c (.bool false)]⟩])
    (.seq (.seq (.reg [⟨some 4, none, .mv, [.c (.int .i64 1)]⟩])
    (.block 0 (.loop [1, 4] [1] [] [] (.seq (.seq (.reg [⟨some 7, none, .mv, [.t 4]⟩,
      ⟨some 8, none, .bin .lss, [.t 7, .c (.int .i64 17)]⟩])
    (.cond (.t 8) .skip (.exit 0)))
    (.seq (.block 1 (.seq (.reg [⟨some 11, none, .mv, [.t 4]⟩,
      ⟨some 12, none, .fadr 10, [.t 1]⟩,
      ⟨some 13, none, .aadr 1 17, [.t 12, .t 11]⟩,
      ⟨some 14, none, .load false 1, [.t 13]⟩,
      ⟨some 15, none, .bin .gtr, [.t 14, .c (.int .i64 0)]⟩,
      ⟨some 5, none, .mv, [.t 15]⟩])
    (.seq (.seq (.reg [⟨some 6, none, .mv, [.c (.int .i64 1)]⟩])
    (.block 2 (.loop [1, 4, 5, 6] [1] [] [] (.seq (.seq (.reg [⟨some 16, none, .mv, [.t 6]⟩,
      ⟨some 17, none, .bin .lss, [.t 16, .c (.int .i64 17)]⟩])
    (.cond (.t 17) .skip (.exit 2)))
    (.seq (.block 3 (.seq (.draw 8 [0, 0, 3, 7, 0, 0, 48, 112, 255] [⟨some 20, none, .mv, [.t 6]⟩,
      ⟨some 21, none, .fadr 10, [.t 1]⟩,
      ⟨some 22, none, .aadr 1 17, [.t 21, .t 20]⟩,
      ⟨some 23, none, .load false 1, [.t 22]⟩,
      ⟨some 24, none, .mv, [.t 4]⟩,
      ⟨some 25, none, .fadr 10, [.t 1]⟩,
      ⟨some 26, none, .aadr 1 17, [.t 25, .t 24]⟩,
      ⟨some 27, none, .load false 1, [.t 26]⟩,
      ⟨some 28, none, .bin .gtr, [.t 23, .t 27]⟩])
    (.cond (.t 28) (.reg [⟨some 5, none, .mv, [.c (.bool false)]⟩]) .skip)))
    (.reg [⟨some 18, none, .mv, [.t 6]⟩,
      ⟨some 19, none, .bin .add, [.t 18, .c (.int .i64 1)]⟩,
      ⟨some 6, none, .mv, [.t 19]⟩]))))))
    (.seq (.reg [⟨some 29, none, .mv, [.t 5]⟩])
    (.cond (.t 29) (.seq (.reg [⟨some 30, none, .mv, [.t 4]⟩,
      ⟨some 2, none, .mv, [.t 30]⟩,
      ⟨some 3, none, .mv, [.c (.bool true)]⟩])
    .ret) .skip)))))
    (.reg [⟨some 9, none, .mv, [.t 4]⟩,
      ⟨some 10, none, .bin .add, [.t 9, .c (.int .i64 1)]⟩,
      ⟨some 4, none, .mv, [.t 10]⟩]))))))
    (.seq (.reg [⟨some 2, none, .mv, [.c (.int .i64 0)]⟩,
      ⟨some 3, none, .mv, [.c (.bool false)]⟩])
    .ret))) []

/-- tripwire/load.Lines -/
def c15 : CFn := CFn.mk 1 [.t 2 false]
    (.seq (.reg [⟨some 1, none, .box, [.t 0]⟩,
      ⟨some 2, none, .nil false 1 9, []⟩])
    (.seq (.draw 27 [0, 1, 3, 7, 0, 16, 48, 127, 0, 256, 768, 2047, 0, 4096, 12288, 32767, 0, 65536, 196608, 524287, 0, 1048576, 3145728, 8388607, 0, 16777216, 50331648, 134217727, 268435455, 536870911] [⟨some 8, none, .fadr 0, [.t 1]⟩,
      ⟨some 9, none, .load false 1, [.t 8]⟩,
      ⟨some 10, none, .bsl false 1 3, [.t 9]⟩,
      ⟨some 11, none, .callh 26, [.c (.str ⟨#[116, 105, 99, 107, 115]⟩), .t 10]⟩,
      ⟨some 12, none, .fadr 1, [.t 1]⟩,
      ⟨some 13, none, .load false 1, [.t 12]⟩,
      ⟨some 14, none, .bsl false 1 3, [.t 13]⟩,
      ⟨some 15, none, .callh 26, [.c (.str ⟨#[98, 117, 115, 121]⟩), .t 14]⟩,
      ⟨some 16, none, .fadr 27, [.t 1]⟩,
      ⟨some 17, none, .load false 1, [.t 16]⟩,
      ⟨some 18, none, .bsl false 1 3, [.t 17]⟩,
      ⟨some 19, none, .callh 26, [.c (.str ⟨#[115, 112, 111, 105, 108, 116]⟩), .t 18]⟩,
      ⟨some 20, none, .fadr 28, [.t 1]⟩,
      ⟨some 21, none, .load false 1, [.t 20]⟩,
      ⟨some 22, none, .bsl false 1 3, [.t 21]⟩,
      ⟨some 23, none, .callh 26, [.c (.str ⟨#[111, 117, 116, 115]⟩), .t 22]⟩,
      ⟨some 24, none, .fadr 29, [.t 1]⟩,
      ⟨some 25, none, .load false 1, [.t 24]⟩,
      ⟨some 26, none, .bsl false 1 3, [.t 25]⟩,
      ⟨some 27, none, .callh 26, [.c (.str ⟨#[116, 114, 105, 112, 115]⟩), .t 26]⟩,
      ⟨some 28, none, .fadr 30, [.t 1]⟩,
      ⟨some 29, none, .load false 1, [.t 28]⟩,
      ⟨some 30, none, .bsl false 1 3, [.t 29]⟩,
      ⟨some 31, none, .callh 26, [.c (.str ⟨#[108, 111, 115, 116]⟩), .t 30]⟩,
      ⟨some 32, none, .fadr 31, [.t 1]⟩,
      ⟨some 33, none, .load false 1, [.t 32]⟩,
      ⟨some 34, none, .bsl false 1 3, [.t 33]⟩,
      ⟨some 35, none, .callh 26, [.c (.str ⟨#[109, 111, 115, 116]⟩), .t 34]⟩,
      ⟨some 36, none, .bsl true 1 9, [.t 11, .t 15, .t 19, .t 23, .t 27, .t 31, .t 35]⟩,
      ⟨some 3, none, .mv, [.t 36]⟩])
    (.seq (.seq (.reg [⟨some 37, none, .fadr 2, [.t 1]⟩,
      ⟨some 38, none, .load true 8, [.t 37]⟩,
      ⟨some 39, none, .mv, [.c (.int .i64 0)]⟩])
    (.block 0 (.loop [1, 3, 38, 39] [1] [36] [] (.seq (.reg [⟨some 40, none, .bin .lss, [.t 39, .c (.int .i64 8)]⟩])
    (.seq (.cond (.t 40) .skip (.exit 0))
    (.seq (.block 1 (.seq (.reg [⟨some 41, none, .mv, [.t 39]⟩,
      ⟨some 42, none, .ixa 1 8 false, [.t 38, .t 39]⟩,
      ⟨some 4, none, .mv, [.t 41]⟩,
      ⟨some 5, none, .mv, [.t 42]⟩])
    (.seq (.reg [⟨some 43, none, .mv, [.t 4]⟩,
      ⟨some 44, none, .bin .gtr, [.t 43, .c (.int .i64 0)]⟩,
      ⟨some 45, none, .mv, [.t 44]⟩,
      ⟨some 46, (some (45, true)), .mv, [.t 5]⟩,
      ⟨some 47, (some (45, true)), .bin .gtr, [.t 46, .c (.int .i64 0)]⟩,
      ⟨some 48, none, .pick, [.t 45, .t 47, .c (.bool false)]⟩])
    (.cond (.t 48) (.reg [⟨some 49, none, .mv, [.t 3]⟩,
      ⟨some 50, none, .mv, [.t 4]⟩,
      ⟨some 51, none, .mv, [.t 5]⟩,
      ⟨some 52, none, .bsl false 1 3, [.t 50, .t 51]⟩,
      ⟨some 53, none, .callh 26, [.c (.str ⟨#[99, 108, 97, 115, 115]⟩), .t 52]⟩,
      ⟨some 54, none, .bsl false 1 9, [.t 53]⟩,
      ⟨some 55, none, .app false 1 16 9, [.t 49, .t 54]⟩,
      ⟨some 3, none, .mv, [.t 55]⟩]) .skip))))
    (.reg [⟨some 56, none, .bin .add, [.t 39, .c (.int .i64 1)]⟩,
      ⟨some 39, none, .mv, [.t 56]⟩])))))))
    (.seq (.seq (.reg [⟨some 57, none, .fadr 10, [.t 1]⟩,
      ⟨some 58, none, .load true 17, [.t 57]⟩,
      ⟨some 59, none, .mv, [.c (.int .i64 0)]⟩])
    (.block 2 (.loop [3, 58, 59] [] [36] [] (.seq (.reg [⟨some 60, none, .bin .lss, [.t 59, .c (.int .i64 17)]⟩])
    (.seq (.cond (.t 60) .skip (.exit 2))
    (.seq (.block 3 (.seq (.reg [⟨some 61, none, .mv, [.t 59]⟩,
      ⟨some 62, none, .ixa 1 17 false, [.t 58, .t 59]⟩,
      ⟨some 6, none, .mv, [.t 61]⟩,
      ⟨some 7, none, .mv, [.t 62]⟩])
    (.seq (.reg [⟨some 63, none, .mv, [.t 6]⟩,
      ⟨some 64, none, .bin .gtr, [.t 63, .c (.int .i64 0)]⟩,
      ⟨some 65, none, .mv, [.t 64]⟩,
      ⟨some 66, (some (65, true)), .mv, [.t 7]⟩,
      ⟨some 67, (some (65, true)), .bin .gtr, [.t 66, .c (.int .i64 0)]⟩,
      ⟨some 68, none, .pick, [.t 65, .t 67, .c (.bool false)]⟩])
    (.cond (.t 68) (.reg [⟨some 69, none, .mv, [.t 3]⟩,
      ⟨some 70, none, .mv, [.t 6]⟩,
      ⟨some 71, none, .mv, [.t 7]⟩,
      ⟨some 72, none, .bsl false 1 3, [.t 70, .t 71]⟩,
      ⟨some 73, none, .callh 26, [.c (.str ⟨#[110, 111, 100, 101]⟩), .t 72]⟩,
      ⟨some 74, none, .bsl false 1 9, [.t 73]⟩,
      ⟨some 75, none, .app false 1 16 9, [.t 69, .t 74]⟩,
      ⟨some 3, none, .mv, [.t 75]⟩]) .skip))))
    (.reg [⟨some 76, none, .bin .add, [.t 59, .c (.int .i64 1)]⟩,
      ⟨some 59, none, .mv, [.t 76]⟩])))))))
    (.seq (.reg [⟨some 77, none, .mv, [.t 3]⟩,
      ⟨some 2, none, .mv, [.t 77]⟩])
    .ret))))) []

/-- tripwire/tripwireref45.Lines -/
def c16 : CFn := CFn.mk 1 [.t 2 false]
    (.seq (.reg [⟨some 1, none, .box, [.t 0]⟩,
      ⟨some 2, none, .nil false 1 9, []⟩])
    (.seq (.reg [⟨some 9, none, .bsl false 1 9, [.c (.str ⟨#[116, 105, 99, 107, 115]⟩), .c (.str ⟨#[98, 117, 115, 121]⟩), .c (.str ⟨#[115, 112, 111, 105, 108, 116]⟩), .c (.str ⟨#[111, 117, 116, 115]⟩), .c (.str ⟨#[116, 114, 105, 112, 115]⟩), .c (.str ⟨#[108, 111, 115, 116]⟩), .c (.str ⟨#[109, 111, 115, 116]⟩)]⟩,
      ⟨some 3, none, .mv, [.t 9]⟩])
    (.seq (.reg [⟨some 10, none, .fadr 0, [.t 1]⟩,
      ⟨some 11, none, .load false 1, [.t 10]⟩,
      ⟨some 12, none, .fadr 1, [.t 1]⟩,
      ⟨some 13, none, .load false 1, [.t 12]⟩,
      ⟨some 14, none, .fadr 27, [.t 1]⟩,
      ⟨some 15, none, .load false 1, [.t 14]⟩,
      ⟨some 16, none, .fadr 28, [.t 1]⟩,
      ⟨some 17, none, .load false 1, [.t 16]⟩,
      ⟨some 18, none, .fadr 29, [.t 1]⟩,
      ⟨some 19, none, .load false 1, [.t 18]⟩,
      ⟨some 20, none, .fadr 30, [.t 1]⟩,
      ⟨some 21, none, .load false 1, [.t 20]⟩,
      ⟨some 22, none, .fadr 31, [.t 1]⟩,
      ⟨some 23, none, .load false 1, [.t 22]⟩,
      ⟨some 24, none, .bsl false 1 3, [.t 11, .t 13, .t 15, .t 17, .t 19, .t 21, .t 23]⟩,
      ⟨some 4, none, .mv, [.t 24]⟩])
    (.seq (.reg [⟨some 25, none, .bsl true 1 9, []⟩,
      ⟨some 5, none, .mv, [.t 25]⟩])
    (.seq (.seq (.reg [⟨some 6, none, .mv, [.c (.int .i64 0)]⟩])
    (.block 0 (.loop [1, 3, 4, 5, 6] [1] [25] [] (.seq (.seq (.reg [⟨some 26, none, .mv, [.t 6]⟩,
      ⟨some 27, none, .mv, [.t 3]⟩,
      ⟨some 28, none, .len, [.t 27]⟩,
      ⟨some 29, none, .bin .lss, [.t 26, .t 28]⟩])
    (.cond (.t 29) .skip (.exit 0)))
    (.seq (.block 1 (.draw 13 [0, 0, 0, 6, 14, 30, 0, 0, 192, 448, 960, 2046, 4094, 8191, 16383] [⟨some 32, none, .mv, [.t 5]⟩,
      ⟨some 33, none, .mv, [.t 3]⟩,
      ⟨some 34, none, .mv, [.t 6]⟩,
      ⟨some 35, none, .ladr 1, [.t 33, .t 34]⟩,
      ⟨some 36, none, .load false 1, [.t 35]⟩,
      ⟨some 37, none, .bin .add, [.t 36, .c (.str ⟨#[32]⟩)]⟩,
      ⟨some 38, none, .mv, [.t 4]⟩,
      ⟨some 39, none, .mv, [.t 6]⟩,
      ⟨some 40, none, .ladr 1, [.t 38, .t 39]⟩,
      ⟨some 41, none, .load false 1, [.t 40]⟩,
      ⟨some 42, none, .callh 27, [.t 41]⟩,
      ⟨some 43, none, .bin .add, [.t 37, .t 42]⟩,
      ⟨some 44, none, .bsl false 1 9, [.t 43]⟩,
      ⟨some 45, none, .app false 1 16 9, [.t 32, .t 44]⟩,
      ⟨some 5, none, .mv, [.t 45]⟩]))
    (.reg [⟨some 30, none, .mv, [.t 6]⟩,
      ⟨some 31, none, .bin .add, [.t 30, .c (.int .i64 1)]⟩,
      ⟨some 6, none, .mv, [.t 31]⟩]))))))
    (.seq (.seq (.reg [⟨some 7, none, .mv, [.c (.int .i64 1)]⟩])
    (.block 2 (.loop [1, 5, 7] [1] [25] [] (.seq (.seq (.reg [⟨some 46, none, .mv, [.t 7]⟩,
      ⟨some 47, none, .bin .lss, [.t 46, .c (.int .i64 8)]⟩])
    (.cond (.t 47) .skip (.exit 2)))
    (.seq (.block 3 (.seq (.reg [⟨some 50, none, .mv, [.t 7]⟩,
      ⟨some 51, none, .fadr 2, [.t 1]⟩,
      ⟨some 52, none, .aadr 1 8, [.t 51, .t 50]⟩,
      ⟨some 53, none, .load false 1, [.t 52]⟩,
      ⟨some 54, none, .bin .gtr, [.t 53, .c (.int .i64 0)]⟩])
    (.cond (.t 54) (.draw 12 [0, 0, 2, 6, 14, 0, 0, 96, 224, 486, 1022, 2046, 4095, 8191] [⟨some 55, none, .mv, [.t 5]⟩,
      ⟨some 56, none, .mv, [.t 7]⟩,
      ⟨some 57, none, .callh 27, [.t 56]⟩,
      ⟨some 58, none, .bin .add, [.c (.str ⟨#[99, 108, 97, 115, 115, 32]⟩), .t 57]⟩,
      ⟨some 59, none, .bin .add, [.t 58, .c (.str ⟨#[32]⟩)]⟩,
      ⟨some 60, none, .mv, [.t 7]⟩,
      ⟨some 61, none, .fadr 2, [.t 1]⟩,
      ⟨some 62, none, .aadr 1 8, [.t 61, .t 60]⟩,
      ⟨some 63, none, .load false 1, [.t 62]⟩,
      ⟨some 64, none, .callh 27, [.t 63]⟩,
      ⟨some 65, none, .bin .add, [.t 59, .t 64]⟩,
      ⟨some 66, none, .bsl false 1 9, [.t 65]⟩,
      ⟨some 67, none, .app false 1 16 9, [.t 55, .t 66]⟩,
      ⟨some 5, none, .mv, [.t 67]⟩]) .skip)))
    (.reg [⟨some 48, none, .mv, [.t 7]⟩,
      ⟨some 49, none, .bin .add, [.t 48, .c (.int .i64 1)]⟩,
      ⟨some 7, none, .mv, [.t 49]⟩]))))))
    (.seq (.seq (.reg [⟨some 8, none, .mv, [.c (.int .i64 1)]⟩])
    (.block 4 (.loop [1, 5, 8] [1] [25] [] (.seq (.seq (.reg [⟨some 68, none, .mv, [.t 8]⟩,
      ⟨some 69, none, .bin .lss, [.t 68, .c (.int .i64 17)]⟩])
    (.cond (.t 69) .skip (.exit 4)))
    (.seq (.block 5 (.seq (.reg [⟨some 72, none, .mv, [.t 8]⟩,
      ⟨some 73, none, .fadr 10, [.t 1]⟩,
      ⟨some 74, none, .aadr 1 17, [.t 73, .t 72]⟩,
      ⟨some 75, none, .load false 1, [.t 74]⟩,
      ⟨some 76, none, .bin .gtr, [.t 75, .c (.int .i64 0)]⟩])
    (.cond (.t 76) (.draw 12 [0, 0, 2, 6, 14, 0, 0, 96, 224, 486, 1022, 2046, 4095, 8191] [⟨some 77, none, .mv, [.t 5]⟩,
      ⟨some 78, none, .mv, [.t 8]⟩,
      ⟨some 79, none, .callh 27, [.t 78]⟩,
      ⟨some 80, none, .bin .add, [.c (.str ⟨#[110, 111, 100, 101, 32]⟩), .t 79]⟩,
      ⟨some 81, none, .bin .add, [.t 80, .c (.str ⟨#[32]⟩)]⟩,
      ⟨some 82, none, .mv, [.t 8]⟩,
      ⟨some 83, none, .fadr 10, [.t 1]⟩,
      ⟨some 84, none, .aadr 1 17, [.t 83, .t 82]⟩,
      ⟨some 85, none, .load false 1, [.t 84]⟩,
      ⟨some 86, none, .callh 27, [.t 85]⟩,
      ⟨some 87, none, .bin .add, [.t 81, .t 86]⟩,
      ⟨some 88, none, .bsl false 1 9, [.t 87]⟩,
      ⟨some 89, none, .app false 1 16 9, [.t 77, .t 88]⟩,
      ⟨some 5, none, .mv, [.t 89]⟩]) .skip)))
    (.reg [⟨some 70, none, .mv, [.t 8]⟩,
      ⟨some 71, none, .bin .add, [.t 70, .c (.int .i64 1)]⟩,
      ⟨some 8, none, .mv, [.t 71]⟩]))))))
    (.seq (.reg [⟨some 90, none, .mv, [.t 5]⟩,
      ⟨some 2, none, .mv, [.t 90]⟩])
    .ret)))))))) []

/-- tripwire/load.Share -/
def c17 : CFn := CFn.mk 1 [.t 2 false]
    (.seq (.reg [⟨some 1, none, .box, [.t 0]⟩,
      ⟨some 2, none, .mv, [.c (.int .i64 0)]⟩])
    (.seq (.seq (.reg [⟨some 3, none, .fadr 0, [.t 1]⟩,
      ⟨some 4, none, .load false 1, [.t 3]⟩,
      ⟨some 5, none, .bin .lss, [.t 4, .c (.int .i64 1)]⟩,
      ⟨some 6, none, .mv, [.t 5]⟩,
      ⟨some 7, (some (6, false)), .fadr 0, [.t 1]⟩,
      ⟨some 8, (some (6, false)), .load false 1, [.t 7]⟩,
      ⟨some 9, (some (6, false)), .bin .gtr, [.t 8, .c (.int .i64 2147483647)]⟩,
      ⟨some 10, none, .pick, [.t 6, .c (.bool true), .t 9]⟩,
      ⟨some 11, none, .mv, [.t 10]⟩,
      ⟨some 12, (some (11, false)), .fadr 1, [.t 1]⟩,
      ⟨some 13, (some (11, false)), .load false 1, [.t 12]⟩,
      ⟨some 14, (some (11, false)), .bin .lss, [.t 13, .c (.int .i64 0)]⟩,
      ⟨some 15, none, .pick, [.t 11, .c (.bool true), .t 14]⟩,
      ⟨some 16, none, .mv, [.t 15]⟩,
      ⟨some 17, (some (16, false)), .fadr 1, [.t 1]⟩,
      ⟨some 18, (some (16, false)), .load false 1, [.t 17]⟩,
      ⟨some 19, (some (16, false)), .fadr 0, [.t 1]⟩,
      ⟨some 20, (some (16, false)), .load false 1, [.t 19]⟩,
      ⟨some 21, (some (16, false)), .bin .gtr, [.t 18, .t 20]⟩,
      ⟨some 22, none, .pick, [.t 16, .c (.bool true), .t 21]⟩])
    (.cond (.t 22) (.seq (.reg [⟨some 2, none, .mv, [.c (.int .i64 0)]⟩])
    .ret) .skip))
    (.seq (.reg [⟨some 23, none, .fadr 1, [.t 1]⟩,
      ⟨some 24, none, .load false 1, [.t 23]⟩,
      ⟨some 25, none, .bin .mul, [.c (.int .i64 1000), .t 24]⟩,
      ⟨some 26, none, .fadr 0, [.t 1]⟩,
      ⟨some 27, none, .load false 1, [.t 26]⟩,
      ⟨some 28, none, .bin .quo, [.t 25, .t 27]⟩,
      ⟨some 2, none, .mv, [.t 28]⟩])
    .ret))) []

/-- tripwire/load.Windows -/
def c18 : CFn := CFn.mk 2 [.t 4 false]
    (.seq (.reg [⟨some 2, none, .box, [.t 0]⟩,
      ⟨some 3, none, .box, [.t 1]⟩,
      ⟨some 4, none, .mv, [.c .nilfn]⟩])
    (.seq (.reg [⟨some 5, none, .mkf 28, [.t 2, .t 3]⟩,
      ⟨some 4, none, .mv, [.t 5]⟩])
    .ret)) []

/-- tripwire/tripwireref45.Add -/
def c19 : CFn := CFn.mk 2 [.cell 4 true 32]
    (.seq (.reg [⟨some 2, none, .box, [.t 0]⟩,
      ⟨some 3, none, .box, [.t 1]⟩,
      ⟨some 4, none, .alloc [(.int .i64 0), (.int .i64 0), (.int .i64 0), (.int .i64 0), (.int .i64 0), (.int .i64 0), (.int .i64 0), (.int .i64 0), (.int .i64 0), (.int .i64 0), (.int .i64 0), (.int .i64 0), (.int .i64 0), (.int .i64 0), (.int .i64 0), (.int .i64 0), (.int .i64 0), (.int .i64 0), (.int .i64 0), (.int .i64 0), (.int .i64 0), (.int .i64 0), (.int .i64 0), (.int .i64 0), (.int .i64 0), (.int .i64 0), (.int .i64 0), (.int .i64 0), (.int .i64 0), (.int .i64 0), (.int .i64 0), (.int .i64 0)], []⟩])
    (.seq (.draw 43 [0, 1, 3, 0, 8, 31, 63, 0, 128, 447, 0, 1024, 4031, 8127, 0, 16384, 57279, 0, 131072, 516031, 1040319, 0, 2097152, 7331775, 0, 16777216, 66052031, 133160895, 0, 268435456, 938467263, 0, 2147483648, 8454660031, 17044594623, 0, 34359738368, 120123809727, 0, 274877906944, 1082196484031, 2181708111807, 4398046511103, 0, 17592186044415] [⟨some 8, none, .fadr 0, [.t 2]⟩,
      ⟨some 9, none, .load false 1, [.t 8]⟩,
      ⟨some 10, none, .callh 29, [.t 9]⟩,
      ⟨some 11, none, .fadr 0, [.t 3]⟩,
      ⟨some 12, none, .load false 1, [.t 11]⟩,
      ⟨some 13, none, .callh 29, [.t 12]⟩,
      ⟨some 14, none, .bin .add, [.t 10, .t 13]⟩,
      ⟨some 15, none, .fadr 1, [.t 2]⟩,
      ⟨some 16, none, .load false 1, [.t 15]⟩,
      ⟨some 17, none, .callh 29, [.t 16]⟩,
      ⟨some 18, none, .fadr 1, [.t 3]⟩,
      ⟨some 19, none, .load false 1, [.t 18]⟩,
      ⟨some 20, none, .callh 29, [.t 19]⟩,
      ⟨some 21, none, .bin .add, [.t 17, .t 20]⟩,
      ⟨some 22, none, .fadr 27, [.t 2]⟩,
      ⟨some 23, none, .load false 1, [.t 22]⟩,
      ⟨some 24, none, .callh 29, [.t 23]⟩,
      ⟨some 25, none, .fadr 27, [.t 3]⟩,
      ⟨some 26, none, .load false 1, [.t 25]⟩,
      ⟨some 27, none, .callh 29, [.t 26]⟩,
      ⟨some 28, none, .bin .add, [.t 24, .t 27]⟩,
      ⟨some 29, none, .fadr 28, [.t 2]⟩,
      ⟨some 30, none, .load false 1, [.t 29]⟩,
      ⟨some 31, none, .callh 29, [.t 30]⟩,
      ⟨some 32, none, .fadr 28, [.t 3]⟩,
      ⟨some 33, none, .load false 1, [.t 32]⟩,
      ⟨some 34, none, .callh 29, [.t 33]⟩,
      ⟨some 35, none, .bin .add, [.t 31, .t 34]⟩,
      ⟨some 36, none, .fadr 29, [.t 2]⟩,
      ⟨some 37, none, .load false 1, [.t 36]⟩,
      ⟨some 38, none, .callh 29, [.t 37]⟩,
      ⟨some 39, none, .fadr 29, [.t 3]⟩,
      ⟨some 40, none, .load false 1, [.t 39]⟩,
      ⟨some 41, none, .callh 29, [.t 40]⟩,
      ⟨some 42, none, .bin .add, [.t 38, .t 41]⟩,
      ⟨some 43, none, .fadr 30, [.t 2]⟩,
      ⟨some 44, none, .load false 1, [.t 43]⟩,
      ⟨some 45, none, .callh 29, [.t 44]⟩,
      ⟨some 46, none, .fadr 30, [.t 3]⟩,
      ⟨some 47, none, .load false 1, [.t 46]⟩,
      ⟨some 48, none, .callh 29, [.t 47]⟩,
      ⟨some 49, none, .bin .add, [.t 45, .t 48]⟩,
      ⟨some 50, none, .build [(.int .i64 0), (.int .i64 0), (.int .i64 0), (.int .i64 0), (.int .i64 0), (.int .i64 0), (.int .i64 0), (.int .i64 0), (.int .i64 0), (.int .i64 0), (.int .i64 0), (.int .i64 0), (.int .i64 0), (.int .i64 0), (.int .i64 0), (.int .i64 0), (.int .i64 0), (.int .i64 0), (.int .i64 0), (.int .i64 0), (.int .i64 0), (.int .i64 0), (.int .i64 0), (.int .i64 0), (.int .i64 0), (.int .i64 0), (.int .i64 0), (.int .i64 0), (.int .i64 0), (.int .i64 0), (.int .i64 0), (.int .i64 0)] [(0, 1), (1, 1), (27, 1), (28, 1), (29, 1), (30, 1)], [.t 14, .t 21, .t 28, .t 35, .t 42, .t 49]⟩,
      ⟨some 5, none, .alloc [(.int .i64 0), (.int .i64 0), (.int .i64 0), (.int .i64 0), (.int .i64 0), (.int .i64 0), (.int .i64 0), (.int .i64 0), (.int .i64 0), (.int .i64 0), (.int .i64 0), (.int .i64 0), (.int .i64 0), (.int .i64 0), (.int .i64 0), (.int .i64 0), (.int .i64 0), (.int .i64 0), (.int .i64 0), (.int .i64 0), (.int .i64 0), (.int .i64 0), (.int .i64 0), (.int .i64 0), (.int .i64 0), (.int .i64 0), (.int .i64 0), (.int .i64 0), (.int .i64 0), (.int .i64 0), (.int .i64 0), (.int .i64 0)], []⟩,
      ⟨none, none, .store 32, [.t 5, .t 50]⟩])
    (.seq (.draw 5 [0, 1, 3, 0, 8, 31, 63, 127, 255] [⟨some 51, none, .fadr 31, [.t 2]⟩,
      ⟨some 52, none, .load false 1, [.t 51]⟩,
      ⟨some 53, none, .callh 29, [.t 52]⟩,
      ⟨some 54, none, .fadr 31, [.t 3]⟩,
      ⟨some 55, none, .load false 1, [.t 54]⟩,
      ⟨some 56, none, .callh 29, [.t 55]⟩,
      ⟨some 57, none, .mx, [.t 53, .t 56]⟩,
      ⟨some 58, none, .fadr 31, [.t 5]⟩,
      ⟨none, none, .store 1, [.t 58, .t 57]⟩])
    (.seq (.seq (.reg [⟨some 6, none, .mv, [.c (.int .i64 0)]⟩])
    (.block 0 (.loop [2, 3, 4, 5, 6] [2, 3, 4, 5] [] [] (.seq (.seq (.reg [⟨some 59, none, .mv, [.t 6]⟩,
      ⟨some 60, none, .bin .lss, [.t 59, .c (.int .i64 8)]⟩])
    (.cond (.t 60) .skip (.exit 0)))
    (.seq (.block 1 (.draw 13 [0, 0, 0, 6, 14, 30, 0, 0, 192, 448, 1022, 2046, 0, 8191, 16383] [⟨some 63, none, .mv, [.t 6]⟩,
      ⟨some 64, none, .mv, [.t 6]⟩,
      ⟨some 65, none, .fadr 2, [.t 2]⟩,
      ⟨some 66, none, .aadr 1 8, [.t 65, .t 64]⟩,
      ⟨some 67, none, .load false 1, [.t 66]⟩,
      ⟨some 68, none, .callh 29, [.t 67]⟩,
      ⟨some 69, none, .mv, [.t 6]⟩,
      ⟨some 70, none, .fadr 2, [.t 3]⟩,
      ⟨some 71, none, .aadr 1 8, [.t 70, .t 69]⟩,
      ⟨some 72, none, .load false 1, [.t 71]⟩,
      ⟨some 73, none, .callh 29, [.t 72]⟩,
      ⟨some 74, none, .bin .add, [.t 68, .t 73]⟩,
      ⟨some 75, none, .fadr 2, [.t 5]⟩,
      ⟨some 76, none, .aadr 1 8, [.t 75, .t 63]⟩,
      ⟨none, none, .store 1, [.t 76, .t 74]⟩]))
    (.reg [⟨some 61, none, .mv, [.t 6]⟩,
      ⟨some 62, none, .bin .add, [.t 61, .c (.int .i64 1)]⟩,
      ⟨some 6, none, .mv, [.t 62]⟩]))))))
    (.seq (.seq (.reg [⟨some 7, none, .mv, [.c (.int .i64 0)]⟩])
    (.block 2 (.loop [2, 3, 4, 5, 7] [2, 3, 4, 5] [] [] (.seq (.seq (.reg [⟨some 77, none, .mv, [.t 7]⟩,
      ⟨some 78, none, .bin .lss, [.t 77, .c (.int .i64 17)]⟩])
    (.cond (.t 78) .skip (.exit 2)))
    (.seq (.block 3 (.draw 13 [0, 0, 0, 6, 14, 30, 0, 0, 192, 448, 1022, 2046, 0, 8191, 16383] [⟨some 81, none, .mv, [.t 7]⟩,
      ⟨some 82, none, .mv, [.t 7]⟩,
      ⟨some 83, none, .fadr 10, [.t 2]⟩,
      ⟨some 84, none, .aadr 1 17, [.t 83, .t 82]⟩,
      ⟨some 85, none, .load false 1, [.t 84]⟩,
      ⟨some 86, none, .callh 29, [.t 85]⟩,
      ⟨some 87, none, .mv, [.t 7]⟩,
      ⟨some 88, none, .fadr 10, [.t 3]⟩,
      ⟨some 89, none, .aadr 1 17, [.t 88, .t 87]⟩,
      ⟨some 90, none, .load false 1, [.t 89]⟩,
      ⟨some 91, none, .callh 29, [.t 90]⟩,
      ⟨some 92, none, .bin .add, [.t 86, .t 91]⟩,
      ⟨some 93, none, .fadr 10, [.t 5]⟩,
      ⟨some 94, none, .aadr 1 17, [.t 93, .t 81]⟩,
      ⟨none, none, .store 1, [.t 94, .t 92]⟩]))
    (.reg [⟨some 79, none, .mv, [.t 7]⟩,
      ⟨some 80, none, .bin .add, [.t 79, .c (.int .i64 1)]⟩,
      ⟨some 7, none, .mv, [.t 80]⟩]))))))
    (.seq (.reg [⟨some 95, none, .load true 32, [.t 5]⟩,
      ⟨none, none, .store 32, [.t 4, .t 95]⟩])
    .ret)))))) []

/-- tripwire/tripwirelaw45.huge -/
def c20 : CFn := CFn.mk 1 [.t 2 false]
    (.seq (.reg [⟨some 2, none, .mv, [.c (.bool false)]⟩])
    (.seq (.reg [⟨some 4, none, .mv, [.t 0]⟩,
      ⟨some 5, none, .callh 10, [.t 4]⟩,
      ⟨some 3, none, .alloc [(.int .i64 0), (.int .i64 0), (.int .i64 0), (.int .i64 0), (.int .i64 0), (.int .i64 0), (.int .i64 0), (.int .i64 0), (.int .i64 0), (.int .i64 0), (.int .i64 0), (.int .i64 0), (.int .i64 0), (.int .i64 0), (.int .i64 0), (.int .i64 0), (.int .i64 0), (.int .i64 0), (.int .i64 0), (.int .i64 0), (.int .i64 0), (.int .i64 0), (.int .i64 0), (.int .i64 0), (.int .i64 0), (.int .i64 0), (.int .i64 0), (.int .i64 0), (.int .i64 0), (.int .i64 0), (.int .i64 0), (.int .i64 0)], []⟩,
      ⟨none, none, .store 32, [.t 3, .t 5]⟩])
    (.seq (.reg [⟨some 6, none, .fadr 30, [.t 3]⟩,
      ⟨some 7, none, .load false 1, [.t 6]⟩,
      ⟨some 8, none, .bin .gtr, [.t 7, .c (.int .i64 2147483647)]⟩,
      ⟨some 9, none, .mv, [.t 8]⟩,
      ⟨some 10, (some (9, false)), .fadr 31, [.t 3]⟩,
      ⟨some 11, (some (9, false)), .load false 1, [.t 10]⟩,
      ⟨some 12, (some (9, false)), .bin .gtr, [.t 11, .c (.int .i64 2147483647)]⟩,
      ⟨some 13, none, .pick, [.t 9, .c (.bool true), .t 12]⟩,
      ⟨some 2, none, .mv, [.t 13]⟩])
    .ret))) []

/-- tripwire/load.Add -/
def c21 : CFn := CFn.mk 2 [.cell 4 true 32]
    (.seq (.reg [⟨some 2, none, .box, [.t 0]⟩,
      ⟨some 3, none, .box, [.t 1]⟩,
      ⟨some 4, none, .alloc [(.int .i64 0), (.int .i64 0), (.int .i64 0), (.int .i64 0), (.int .i64 0), (.int .i64 0), (.int .i64 0), (.int .i64 0), (.int .i64 0), (.int .i64 0), (.int .i64 0), (.int .i64 0), (.int .i64 0), (.int .i64 0), (.int .i64 0), (.int .i64 0), (.int .i64 0), (.int .i64 0), (.int .i64 0), (.int .i64 0), (.int .i64 0), (.int .i64 0), (.int .i64 0), (.int .i64 0), (.int .i64 0), (.int .i64 0), (.int .i64 0), (.int .i64 0), (.int .i64 0), (.int .i64 0), (.int .i64 0), (.int .i64 0)], []⟩])
    (.seq (.draw 38 [0, 1, 0, 4, 15, 0, 32, 0, 128, 511, 0, 1024, 0, 4096, 16383, 0, 32768, 0, 131072, 524287, 0, 1048576, 0, 4194304, 16777215, 0, 33554432, 0, 134217728, 536870911, 0, 1073741824, 4294967295, 0, 8589934592, 34359738367, 68719476735, 137438953471, 0, 549755813887] [⟨some 8, none, .fadr 0, [.t 2]⟩,
      ⟨some 9, none, .load false 1, [.t 8]⟩,
      ⟨some 10, none, .fadr 0, [.t 3]⟩,
      ⟨some 11, none, .load false 1, [.t 10]⟩,
      ⟨some 12, none, .callh 30, [.t 9, .t 11]⟩,
      ⟨some 13, none, .fadr 1, [.t 2]⟩,
      ⟨some 14, none, .load false 1, [.t 13]⟩,
      ⟨some 15, none, .fadr 1, [.t 3]⟩,
      ⟨some 16, none, .load false 1, [.t 15]⟩,
      ⟨some 17, none, .callh 30, [.t 14, .t 16]⟩,
      ⟨some 18, none, .fadr 27, [.t 2]⟩,
      ⟨some 19, none, .load false 1, [.t 18]⟩,
      ⟨some 20, none, .fadr 27, [.t 3]⟩,
      ⟨some 21, none, .load false 1, [.t 20]⟩,
      ⟨some 22, none, .callh 30, [.t 19, .t 21]⟩,
      ⟨some 23, none, .fadr 28, [.t 2]⟩,
      ⟨some 24, none, .load false 1, [.t 23]⟩,
      ⟨some 25, none, .fadr 28, [.t 3]⟩,
      ⟨some 26, none, .load false 1, [.t 25]⟩,
      ⟨some 27, none, .callh 30, [.t 24, .t 26]⟩,
      ⟨some 28, none, .fadr 29, [.t 2]⟩,
      ⟨some 29, none, .load false 1, [.t 28]⟩,
      ⟨some 30, none, .fadr 29, [.t 3]⟩,
      ⟨some 31, none, .load false 1, [.t 30]⟩,
      ⟨some 32, none, .callh 30, [.t 29, .t 31]⟩,
      ⟨some 33, none, .fadr 30, [.t 2]⟩,
      ⟨some 34, none, .load false 1, [.t 33]⟩,
      ⟨some 35, none, .fadr 30, [.t 3]⟩,
      ⟨some 36, none, .load false 1, [.t 35]⟩,
      ⟨some 37, none, .callh 30, [.t 34, .t 36]⟩,
      ⟨some 38, none, .fadr 31, [.t 2]⟩,
      ⟨some 39, none, .load false 1, [.t 38]⟩,
      ⟨some 40, none, .callh 31, [.t 39]⟩,
      ⟨some 41, none, .fadr 31, [.t 3]⟩,
      ⟨some 42, none, .load false 1, [.t 41]⟩,
      ⟨some 43, none, .callh 31, [.t 42]⟩,
      ⟨some 44, none, .mx, [.t 40, .t 43]⟩,
      ⟨some 45, none, .build [(.int .i64 0), (.int .i64 0), (.int .i64 0), (.int .i64 0), (.int .i64 0), (.int .i64 0), (.int .i64 0), (.int .i64 0), (.int .i64 0), (.int .i64 0), (.int .i64 0), (.int .i64 0), (.int .i64 0), (.int .i64 0), (.int .i64 0), (.int .i64 0), (.int .i64 0), (.int .i64 0), (.int .i64 0), (.int .i64 0), (.int .i64 0), (.int .i64 0), (.int .i64 0), (.int .i64 0), (.int .i64 0), (.int .i64 0), (.int .i64 0), (.int .i64 0), (.int .i64 0), (.int .i64 0), (.int .i64 0), (.int .i64 0)] [(0, 1), (1, 1), (27, 1), (28, 1), (29, 1), (30, 1), (31, 1)], [.t 12, .t 17, .t 22, .t 27, .t 32, .t 37, .t 44]⟩,
      ⟨some 5, none, .alloc [(.int .i64 0), (.int .i64 0), (.int .i64 0), (.int .i64 0), (.int .i64 0), (.int .i64 0), (.int .i64 0), (.int .i64 0), (.int .i64 0), (.int .i64 0), (.int .i64 0), (.int .i64 0), (.int .i64 0), (.int .i64 0), (.int .i64 0), (.int .i64 0), (.int .i64 0), (.int .i64 0), (.int .i64 0), (.int .i64 0), (.int .i64 0), (.int .i64 0), (.int .i64 0), (.int .i64 0), (.int .i64 0), (.int .i64 0), (.int .i64 0), (.int .i64 0), (.int .i64 0), (.int .i64 0), (.int .i64 0), (.int .i64 0)], []⟩,
      ⟨none, none, .store 32, [.t 5, .t 45]⟩])
    (.seq (.seq (.reg [⟨some 46, none, .mv, [.c (.int .i64 0)]⟩])
    (.block 0 (.loop [2, 3, 4, 5, 46] [2, 3, 4, 5] [] [] (.seq (.reg [⟨some 47, none, .bin .lss, [.t 46, .c (.int .i64 8)]⟩])
    (.seq (.cond (.t 47) .skip (.exit 0))
    (.seq (.block 1 (.seq (.reg [⟨some 48, none, .mv, [.t 46]⟩,
      ⟨some 6, none, .mv, [.t 48]⟩])
    (.draw 11 [0, 0, 0, 6, 14, 0, 0, 96, 224, 510, 0, 2047, 4095] [⟨some 49, none, .mv, [.t 6]⟩,
      ⟨some 50, none, .mv, [.t 6]⟩,
      ⟨some 51, none, .fadr 2, [.t 2]⟩,
      ⟨some 52, none, .aadr 1 8, [.t 51, .t 50]⟩,
      ⟨some 53, none, .load false 1, [.t 52]⟩,
      ⟨some 54, none, .mv, [.t 6]⟩,
      ⟨some 55, none, .fadr 2, [.t 3]⟩,
      ⟨some 56, none, .aadr 1 8, [.t 55, .t 54]⟩,
      ⟨some 57, none, .load false 1, [.t 56]⟩,
      ⟨some 58, none, .callh 30, [.t 53, .t 57]⟩,
      ⟨some 59, none, .fadr 2, [.t 5]⟩,
      ⟨some 60, none, .aadr 1 8, [.t 59, .t 49]⟩,
      ⟨none, none, .store 1, [.t 60, .t 58]⟩])))
    (.reg [⟨some 61, none, .bin .add, [.t 46, .c (.int .i64 1)]⟩,
      ⟨some 46, none, .mv, [.t 61]⟩])))))))
    (.seq (.seq (.reg [⟨some 62, none, .mv, [.c (.int .i64 0)]⟩])
    (.block 2 (.loop [2, 3, 4, 5, 62] [2, 3, 4, 5] [] [] (.seq (.reg [⟨some 63, none, .bin .lss, [.t 62, .c (.int .i64 17)]⟩])
    (.seq (.cond (.t 63) .skip (.exit 2))
    (.seq (.block 3 (.seq (.reg [⟨some 64, none, .mv, [.t 62]⟩,
      ⟨some 7, none, .mv, [.t 64]⟩])
    (.draw 11 [0, 0, 0, 6, 14, 0, 0, 96, 224, 510, 0, 2047, 4095] [⟨some 65, none, .mv, [.t 7]⟩,
      ⟨some 66, none, .mv, [.t 7]⟩,
      ⟨some 67, none, .fadr 10, [.t 2]⟩,
      ⟨some 68, none, .aadr 1 17, [.t 67, .t 66]⟩,
      ⟨some 69, none, .load false 1, [.t 68]⟩,
      ⟨some 70, none, .mv, [.t 7]⟩,
      ⟨some 71, none, .fadr 10, [.t 3]⟩,
      ⟨some 72, none, .aadr 1 17, [.t 71, .t 70]⟩,
      ⟨some 73, none, .load false 1, [.t 72]⟩,
      ⟨some 74, none, .callh 30, [.t 69, .t 73]⟩,
      ⟨some 75, none, .fadr 10, [.t 5]⟩,
      ⟨some 76, none, .aadr 1 17, [.t 75, .t 65]⟩,
      ⟨none, none, .store 1, [.t 76, .t 74]⟩])))
    (.reg [⟨some 77, none, .bin .add, [.t 62, .c (.int .i64 1)]⟩,
      ⟨some 62, none, .mv, [.t 77]⟩])))))))
    (.seq (.reg [⟨some 78, none, .load true 32, [.t 5]⟩,
      ⟨none, none, .store 32, [.t 4, .t 78]⟩])
    .ret))))) []

/-- tripwire/load.round -/
def c22 : CFn := CFn.mk 2 []
    (.seq (.reg [⟨some 3, none, .box, [.t 1]⟩])
    (.seq (.reg [⟨some 11, none, .mv, [.t 0]⟩,
      ⟨some 12, none, .nilc, [.t 11]⟩,
      ⟨some 13, none, .fadr 0, [.t 12]⟩,
      ⟨some 14, none, .load false 1, [.t 13]⟩,
      ⟨some 15, none, .bin .add, [.t 14, .c (.int .i64 1)]⟩,
      ⟨some 16, none, .nilc, [.t 11]⟩,
      ⟨some 17, none, .fadr 0, [.t 16]⟩,
      ⟨none, none, .store 1, [.t 17, .t 15]⟩])
    (.seq (.seq (.reg [⟨some 18, none, .fadr 2, [.t 3]⟩,
      ⟨some 19, none, .load false 1, [.t 18]⟩,
      ⟨some 20, none, .len, [.t 19]⟩,
      ⟨some 21, none, .bin .gtr, [.t 20, .c (.int .i64 0)]⟩])
    (.cond (.t 21) (.reg [⟨some 22, none, .mv, [.t 0]⟩,
      ⟨some 23, none, .nilc, [.t 22]⟩,
      ⟨some 24, none, .fadr 1, [.t 23]⟩,
      ⟨some 25, none, .load false 1, [.t 24]⟩,
      ⟨some 26, none, .bin .add, [.t 25, .c (.int .i64 1)]⟩,
      ⟨some 27, none, .nilc, [.t 22]⟩,
      ⟨some 28, none, .fadr 1, [.t 27]⟩,
      ⟨none, none, .store 1, [.t 28, .t 26]⟩]) .skip))
    (.seq (.seq (.reg [⟨some 29, none, .fadr 2, [.t 3]⟩,
      ⟨some 30, none, .load false 1, [.t 29]⟩,
      ⟨some 31, none, .len, [.t 30]⟩,
      ⟨some 32, none, .mv, [.c (.int .i64 0)]⟩])
    (.block 0 (.loop [0, 3, 30, 31, 32] [3] [] [] (.seq (.reg [⟨some 33, none, .bin .lss, [.t 32, .t 31]⟩])
    (.seq (.cond (.t 33) .skip (.exit 0))
    (.seq (.block 1 (.seq (.reg [⟨some 34, none, .ladr 12, [.t 30, .t 32]⟩,
      ⟨some 35, none, .load true 12, [.t 34]⟩,
      ⟨some 5, none, .alloc [(.int .i64 0), (.int .i64 0), (.bool false), (.int .i64 0), (.int .u8 0), (.int .u8 0), (.int .u8 0), (.int .u8 0), (.int .u8 0), (.int .u8 0), (.int .u8 0), (.int .u8 0)], []⟩,
      ⟨none, none, .store 12, [.t 5, .t 35]⟩])
    (.seq (.draw 11 [0, 0, 2, 6, 1, 17, 63, 127, 255, 1, 513, 2047, 4095] [⟨some 36, none, .mv, [.t 0]⟩,
      ⟨some 37, none, .fadr 1, [.t 5]⟩,
      ⟨some 38, none, .load true 11, [.t 37]⟩,
      ⟨some 39, none, .callh 11, [.t 38]⟩,
      ⟨some 40, none, .nilc, [.t 36]⟩,
      ⟨some 41, none, .fadr 2, [.t 40]⟩,
      ⟨some 42, none, .aadr 1 8, [.t 41, .t 39]⟩,
      ⟨some 43, none, .load false 1, [.t 42]⟩,
      ⟨some 44, none, .bin .add, [.t 43, .c (.int .i64 1)]⟩,
      ⟨some 45, none, .nilc, [.t 36]⟩,
      ⟨some 46, none, .fadr 2, [.t 45]⟩,
      ⟨some 47, none, .aadr 1 8, [.t 46, .t 39]⟩,
      ⟨none, none, .store 1, [.t 47, .t 44]⟩])
    (.seq (.reg [⟨some 48, none, .fadr 0, [.t 5]⟩,
      ⟨some 49, none, .load false 1, [.t 48]⟩,
      ⟨some 6, none, .mv, [.t 49]⟩])
    (.seq (.seq (.reg [⟨some 50, none, .mv, [.t 6]⟩,
      ⟨some 51, none, .bin .lss, [.t 50, .c (.int .i64 1)]⟩,
      ⟨some 52, none, .mv, [.t 51]⟩,
      ⟨some 53, (some (52, false)), .mv, [.t 6]⟩,
      ⟨some 54, (some (52, false)), .bin .gtr, [.t 53, .c (.int .i64 16)]⟩,
      ⟨some 55, none, .pick, [.t 52, .c (.bool true), .t 54]⟩])
    (.cond (.t 55) (.reg [⟨some 6, none, .mv, [.c (.int .i64 0)]⟩]) .skip))
    (.draw 9 [0, 0, 1, 5, 15, 31, 63, 1, 129, 511, 1023] [⟨some 56, none, .mv, [.t 0]⟩,
      ⟨some 57, none, .mv, [.t 6]⟩,
      ⟨some 58, none, .nilc, [.t 56]⟩,
      ⟨some 59, none, .fadr 10, [.t 58]⟩,
      ⟨some 60, none, .aadr 1 17, [.t 59, .t 57]⟩,
      ⟨some 61, none, .load false 1, [.t 60]⟩,
      ⟨some 62, none, .bin .add, [.t 61, .c (.int .i64 1)]⟩,
      ⟨some 63, none, .nilc, [.t 56]⟩,
      ⟨some 64, none, .fadr 10, [.t 63]⟩,
      ⟨some 65, none, .aadr 1 17, [.t 64, .t 57]⟩,
      ⟨none, none, .store 1, [.t 65, .t 62]⟩]))))))
    (.reg [⟨some 66, none, .bin .add, [.t 32, .c (.int .i64 1)]⟩,
      ⟨some 32, none, .mv, [.t 66]⟩])))))))
    (.seq (.seq (.reg [⟨some 67, none, .fadr 3, [.t 3]⟩,
      ⟨some 68, none, .load false 1, [.t 67]⟩,
      ⟨some 69, none, .len, [.t 68]⟩,
      ⟨some 70, none, .mv, [.c (.int .i64 0)]⟩])
    (.block 2 (.loop [0, 3, 68, 69, 70] [3] [] [] (.seq (.reg [⟨some 71, none, .bin .lss, [.t 70, .t 69]⟩])
    (.seq (.cond (.t 71) .skip (.exit 2))
    (.seq (.block 3 (.seq (.reg [⟨some 72, none, .ladr 14, [.t 68, .t 70]⟩,
      ⟨some 73, none, .load true 14, [.t 72]⟩,
      ⟨some 8, none, .alloc [(.int .i64 0), (.int .i64 0), (.int .i64 0), (.bool false), (.int .i64 0), (.int .u8 0), (.int .u8 0), (.int .u8 0), (.int .u8 0), (.int .u8 0), (.int .u8 0), (.int .u8 0), (.int .u8 0), (.bool false)], []⟩,
      ⟨none, none, .store 14, [.t 8, .t 73]⟩])
    (.seq (.reg [⟨some 74, none, .fadr 13, [.t 8]⟩,
      ⟨some 75, none, .load false 1, [.t 74]⟩,
      ⟨some 76, none, .un .not, [.t 75]⟩])
    (.cond (.t 76) (.reg [⟨some 77, none, .mv, [.t 0]⟩,
      ⟨some 78, none, .nilc, [.t 77]⟩,
      ⟨some 79, none, .fadr 27, [.t 78]⟩,
      ⟨some 80, none, .load false 1, [.t 79]⟩,
      ⟨some 81, none, .bin .add, [.t 80, .c (.int .i64 1)]⟩,
      ⟨some 82, none, .nilc, [.t 77]⟩,
      ⟨some 83, none, .fadr 27, [.t 82]⟩,
      ⟨none, none, .store 1, [.t 83, .t 81]⟩]) .skip))))
    (.reg [⟨some 84, none, .bin .add, [.t 70, .c (.int .i64 1)]⟩,
      ⟨some 70, none, .mv, [.t 84]⟩])))))))
    (.seq (.seq (.reg [⟨some 85, none, .fadr 4, [.t 3]⟩,
      ⟨some 86, none, .load false 1, [.t 85]⟩,
      ⟨some 87, none, .len, [.t 86]⟩,
      ⟨some 88, none, .mv, [.c (.int .i64 0)]⟩])
    (.block 4 (.loop [0, 3, 86, 87, 88] [3] [] [] (.seq (.reg [⟨some 89, none, .bin .lss, [.t 88, .t 87]⟩])
    (.seq (.cond (.t 89) .skip (.exit 4))
    (.seq (.block 5 (.seq (.reg [⟨some 90, none, .ladr 5, [.t 86, .t 88]⟩,
      ⟨some 91, none, .load true 5, [.t 90]⟩,
      ⟨some 10, none, .alloc [(.int .i64 0), (.int .i64 0), (.int .i64 0), (.int .i64 0), (.str ByteArray.empty)], []⟩,
      ⟨none, none, .store 5, [.t 10, .t 91]⟩])
    (.reg [⟨some 92, none, .mv, [.t 0]⟩,
      ⟨some 93, none, .load true 5, [.t 10]⟩,
      ⟨some 94, none, .call 32 false, [.t 92, .t 93]⟩])))
    (.reg [⟨some 95, none, .bin .add, [.t 88, .c (.int .i64 1)]⟩,
      ⟨some 88, none, .mv, [.t 95]⟩])))))))
    (.draw 8 [0, 0, 2, 6, 14, 0, 32, 126, 255, 511, 1023] [⟨some 96, none, .mv, [.t 0]⟩,
      ⟨some 97, none, .mv, [.t 0]⟩,
      ⟨some 98, none, .nilc, [.t 97]⟩,
      ⟨some 99, none, .fadr 31, [.t 98]⟩,
      ⟨some 100, none, .load false 1, [.t 99]⟩,
      ⟨some 101, none, .fadr 5, [.t 3]⟩,
      ⟨some 102, none, .load false 1, [.t 101]⟩,
      ⟨some 103, none, .mx, [.t 100, .t 102]⟩,
      ⟨some 104, none, .nilc, [.t 96]⟩,
      ⟨some 105, none, .fadr 31, [.t 104]⟩,
      ⟨none, none, .store 1, [.t 105, .t 103]⟩]))))))) []

/-- tripwire/tripwireref45.marks -/
def c23 : CFn := CFn.mk 2 [.t 4 false]
    (.seq (.reg [⟨some 4, none, .mv, [.c (.int .i64 0)]⟩])
    (.seq (.reg [⟨some 5, none, .mv, [.c (.int .i64 0)]⟩])
    (.seq (.seq (.reg [⟨some 6, none, .mv, [.c (.int .i64 0)]⟩])
    (.block 0 (.loop [0, 1, 5, 6] [] [] [] (.seq (.seq (.reg [⟨some 8, none, .mv, [.t 6]⟩,
      ⟨some 9, none, .mv, [.t 0]⟩,
      ⟨some 10, none, .len, [.t 9]⟩,
      ⟨some 11, none, .bin .lss, [.t 8, .t 10]⟩])
    (.cond (.t 11) .skip (.exit 0)))
    (.seq (.block 1 (.seq (.reg [⟨some 7, none, .mv, [.c (.int .i64 0)]⟩])
    (.block 2 (.loop [0, 1, 5, 6, 7] [] [] [] (.seq (.seq (.reg [⟨some 14, none, .mv, [.t 7]⟩,
      ⟨some 15, none, .mv, [.t 0]⟩,
      ⟨some 16, none, .mv, [.t 6]⟩,
      ⟨some 17, none, .ladr 6, [.t 15, .t 16]⟩,
      ⟨some 18, none, .fadr 4, [.t 17]⟩,
      ⟨some 19, none, .load false 1, [.t 18]⟩,
      ⟨some 20, none, .len, [.t 19]⟩,
      ⟨some 21, none, .bin .lss, [.t 14, .t 20]⟩])
    (.cond (.t 21) .skip (.exit 2)))
    (.seq (.block 3 (.seq (.reg [⟨some 24, none, .mv, [.t 0]⟩,
      ⟨some 25, none, .mv, [.t 6]⟩,
      ⟨some 26, none, .ladr 6, [.t 24, .t 25]⟩,
      ⟨some 27, none, .fadr 4, [.t 26]⟩,
      ⟨some 28, none, .load false 1, [.t 27]⟩,
      ⟨some 29, none, .mv, [.t 7]⟩,
      ⟨some 30, none, .ladr 5, [.t 28, .t 29]⟩,
      ⟨some 31, none, .fadr 2, [.t 30]⟩,
      ⟨some 32, none, .load false 1, [.t 31]⟩,
      ⟨some 33, none, .mv, [.t 1]⟩,
      ⟨some 34, none, .bin .eql, [.t 32, .t 33]⟩])
    (.cond (.t 34) (.reg [⟨some 35, none, .mv, [.t 5]⟩,
      ⟨some 36, none, .bin .add, [.t 35, .c (.int .i64 1)]⟩,
      ⟨some 5, none, .mv, [.t 36]⟩]) .skip)))
    (.reg [⟨some 22, none, .mv, [.t 7]⟩,
      ⟨some 23, none, .bin .add, [.t 22, .c (.int .i64 1)]⟩,
      ⟨some 7, none, .mv, [.t 23]⟩])))))))
    (.reg [⟨some 12, none, .mv, [.t 6]⟩,
      ⟨some 13, none, .bin .add, [.t 12, .c (.int .i64 1)]⟩,
      ⟨some 6, none, .mv, [.t 13]⟩]))))))
    (.seq (.reg [⟨some 37, none, .mv, [.t 5]⟩,
      ⟨some 4, none, .mv, [.t 37]⟩])
    .ret)))) []

/-- tripwire/tripwireref45.sent -/
def c24 : CFn := CFn.mk 3 [.t 6 false]
    (.seq (.reg [⟨some 6, none, .mv, [.c (.int .i64 0)]⟩])
    (.seq (.reg [⟨some 7, none, .mv, [.c (.int .i64 0)]⟩])
    (.seq (.seq (.reg [⟨some 8, none, .mv, [.c (.int .i64 0)]⟩])
    (.block 0 (.loop [0, 1, 2, 7, 8] [] [] [] (.seq (.seq (.reg [⟨some 11, none, .mv, [.t 8]⟩,
      ⟨some 12, none, .mv, [.t 0]⟩,
      ⟨some 13, none, .len, [.t 12]⟩,
      ⟨some 14, none, .bin .lss, [.t 11, .t 13]⟩])
    (.cond (.t 14) .skip (.exit 0)))
    (.seq (.block 1 (.seq (.reg [⟨some 9, none, .mv, [.c (.int .i64 0)]⟩])
    (.block 2 (.loop [0, 1, 2, 7, 8, 9] [] [] [] (.seq (.seq (.reg [⟨some 17, none, .mv, [.t 9]⟩,
      ⟨some 18, none, .mv, [.t 0]⟩,
      ⟨some 19, none, .mv, [.t 8]⟩,
      ⟨some 20, none, .ladr 6, [.t 18, .t 19]⟩,
      ⟨some 21, none, .fadr 2, [.t 20]⟩,
      ⟨some 22, none, .load false 1, [.t 21]⟩,
      ⟨some 23, none, .len, [.t 22]⟩,
      ⟨some 24, none, .bin .lss, [.t 17, .t 23]⟩])
    (.cond (.t 24) .skip (.exit 2)))
    (.seq (.block 3 (.seq (.reg [⟨some 27, none, .mv, [.t 0]⟩,
      ⟨some 28, none, .mv, [.t 8]⟩,
      ⟨some 29, none, .ladr 6, [.t 27, .t 28]⟩,
      ⟨some 30, none, .fadr 2, [.t 29]⟩,
      ⟨some 31, none, .load false 1, [.t 30]⟩,
      ⟨some 32, none, .mv, [.t 9]⟩,
      ⟨some 33, none, .ladr 12, [.t 31, .t 32]⟩,
      ⟨some 34, none, .fadr 0, [.t 33]⟩,
      ⟨some 35, none, .load false 1, [.t 34]⟩,
      ⟨some 10, none, .mv, [.t 35]⟩])
    (.seq (.seq (.reg [⟨some 36, none, .mv, [.t 10]⟩,
      ⟨some 37, none, .bin .lss, [.t 36, .c (.int .i64 1)]⟩,
      ⟨some 38, none, .mv, [.t 37]⟩,
      ⟨some 39, (some (38, false)), .mv, [.t 10]⟩,
      ⟨some 40, (some (38, false)), .bin .gtr, [.t 39, .c (.int .i64 16)]⟩,
      ⟨some 41, none, .pick, [.t 38, .c (.bool true), .t 40]⟩])
    (.cond (.t 41) (.reg [⟨some 10, none, .mv, [.c (.int .i64 0)]⟩]) .skip))
    (.seq (.reg [⟨some 42, none, .mv, [.t 1]⟩,
      ⟨some 43, none, .bin .lss, [.t 42, .c (.int .i64 0)]⟩,
      ⟨some 44, none, .mv, [.t 43]⟩,
      ⟨some 45, (some (44, false)), .mv, [.t 0]⟩,
      ⟨some 46, (some (44, false)), .mv, [.t 8]⟩,
      ⟨some 47, (some (44, false)), .ladr 6, [.t 45, .t 46]⟩,
      ⟨some 48, (some (44, false)), .fadr 2, [.t 47]⟩,
      ⟨some 49, (some (44, false)), .load false 1, [.t 48]⟩,
      ⟨some 50, (some (44, false)), .mv, [.t 9]⟩,
      ⟨some 51, (some (44, false)), .ladr 12, [.t 49, .t 50]⟩,
      ⟨some 52, (some (44, false)), .fadr 1, [.t 51]⟩,
      ⟨some 53, (some (44, false)), .fadr 0, [.t 52]⟩,
      ⟨some 54, (some (44, false)), .load false 1, [.t 53]⟩,
      ⟨some 55, (some (44, false)), .callh 12, [.t 54]⟩,
      ⟨some 56, (some (44, false)), .mv, [.t 1]⟩,
      ⟨some 57, (some (44, false)), .bin .eql, [.t 55, .t 56]⟩,
      ⟨some 58, none, .pick, [.t 44, .c (.bool true), .t 57]⟩,
      ⟨some 59, none, .mv, [.t 58]⟩,
      ⟨some 60, (some (59, true)), .mv, [.t 2]⟩,
      ⟨some 61, (some (59, true)), .bin .lss, [.t 60, .c (.int .i64 0)]⟩,
      ⟨some 62, (some (59, true)), .mv, [.t 61]⟩,
      ⟨some 63, (some (62, false)), .mv, [.t 10]⟩,
      ⟨some 64, (some (62, false)), .mv, [.t 2]⟩,
      ⟨some 65, (some (62, false)), .bin .eql, [.t 63, .t 64]⟩,
      ⟨some 66, (some (59, true)), .pick, [.t 62, .c (.bool true), .t 65]⟩,
      ⟨some 67, none, .pick, [.t 59, .t 66, .c (.bool false)]⟩])
    (.cond (.t 67) (.reg [⟨some 68, none, .mv, [.t 7]⟩,
      ⟨some 69, none, .bin .add, [.t 68, .c (.int .i64 1)]⟩,
      ⟨some 7, none, .mv, [.t 69]⟩]) .skip)))))
    (.reg [⟨some 25, none, .mv, [.t 9]⟩,
      ⟨some 26, none, .bin .add, [.t 25, .c (.int .i64 1)]⟩,
      ⟨some 9, none, .mv, [.t 26]⟩])))))))
    (.reg [⟨some 15, none, .mv, [.t 8]⟩,
      ⟨some 16, none, .bin .add, [.t 15, .c (.int .i64 1)]⟩,
      ⟨some 8, none, .mv, [.t 16]⟩]))))))
    (.seq (.reg [⟨some 70, none, .mv, [.t 7]⟩,
      ⟨some 6, none, .mv, [.t 70]⟩])
    .ret)))) []

/-- tripwire/load.in -/
def c25 : CFn := CFn.mk 3 [.t 6 false]
    (.seq (.reg [⟨some 6, none, .mv, [.c (.bool false)]⟩])
    (.seq (.reg [⟨some 7, none, .mv, [.t 0]⟩,
      ⟨some 8, none, .mv, [.t 1]⟩,
      ⟨some 9, none, .bin .geq, [.t 7, .t 8]⟩,
      ⟨some 10, none, .mv, [.t 9]⟩,
      ⟨some 11, (some (10, true)), .mv, [.t 0]⟩,
      ⟨some 12, (some (10, true)), .mv, [.t 2]⟩,
      ⟨some 13, (some (10, true)), .bin .leq, [.t 11, .t 12]⟩,
      ⟨some 14, none, .pick, [.t 10, .t 13, .c (.bool false)]⟩,
      ⟨some 6, none, .mv, [.t 14]⟩])
    .ret)) []

/-- tripwire/load.line -/
def c26 : CFn := CFn.mk 2 [.t 4 false]
    (.seq (.reg [⟨some 4, none, .mv, [.c (.str ⟨#[]⟩)]⟩])
    (.seq (.reg [⟨some 8, none, .mv, [.t 0]⟩,
      ⟨some 9, none, .bsl true 1 9, [.t 8]⟩,
      ⟨some 5, none, .mv, [.t 9]⟩])
    (.seq (.seq (.reg [⟨some 10, none, .mv, [.t 1]⟩,
      ⟨some 11, none, .len, [.t 10]⟩,
      ⟨some 12, none, .mv, [.c (.int .i64 0)]⟩])
    (.block 0 (.loop [5, 10, 11, 12] [] [9] [] (.seq (.reg [⟨some 13, none, .bin .lss, [.t 12, .t 11]⟩])
    (.seq (.cond (.t 13) .skip (.exit 0))
    (.seq (.block 1 (.seq (.reg [⟨some 14, none, .ladr 1, [.t 10, .t 12]⟩,
      ⟨some 15, none, .load false 1, [.t 14]⟩,
      ⟨some 7, none, .mv, [.t 15]⟩])
    (.reg [⟨some 16, none, .mv, [.t 5]⟩,
      ⟨some 17, none, .mv, [.t 7]⟩,
      ⟨some 18, none, .callh 33, [.t 17]⟩,
      ⟨some 19, none, .bsl false 1 9, [.t 18]⟩,
      ⟨some 20, none, .app false 1 16 9, [.t 16, .t 19]⟩,
      ⟨some 5, none, .mv, [.t 20]⟩])))
    (.reg [⟨some 21, none, .bin .add, [.t 12, .c (.int .i64 1)]⟩,
      ⟨some 12, none, .mv, [.t 21]⟩])))))))
    (.seq (.reg [⟨some 22, none, .mv, [.t 5]⟩,
      ⟨some 23, none, .callh 34, [.t 22, .c (.str ⟨#[32]⟩)]⟩,
      ⟨some 4, none, .mv, [.t 23]⟩])
    .ret)))) []

/-- tripwire/tripwireref37.Num -/
def c27 : CFn := CFn.mk 1 [.t 2 false]
    (.seq (.reg [⟨some 2, none, .mv, [.c (.str ⟨#[]⟩)]⟩])
    (.seq (.seq (.reg [⟨some 3, none, .mv, [.t 0]⟩,
      ⟨some 4, none, .bin .lss, [.t 3, .c (.int .i64 0)]⟩])
    (.cond (.t 4) (.seq (.reg [⟨some 5, none, .mv, [.t 0]⟩,
      ⟨some 6, none, .i2i .u64, [.t 5]⟩,
      ⟨some 7, none, .bin .sub, [.c (.int .u64 0), .t 6]⟩,
      ⟨some 8, none, .callh 35, [.t 7]⟩,
      ⟨some 9, none, .bin .add, [.c (.str ⟨#[45]⟩), .t 8]⟩,
      ⟨some 2, none, .mv, [.t 9]⟩])
    .ret) .skip))
    (.seq (.reg [⟨some 10, none, .mv, [.t 0]⟩,
      ⟨some 11, none, .i2i .u64, [.t 10]⟩,
      ⟨some 12, none, .callh 35, [.t 11]⟩,
      ⟨some 2, none, .mv, [.t 12]⟩])
    .ret))) []

/-- tripwire/load.Windows$1 -/
def c28 : CFn := CFn.mk 3 []
    (.seq (.seq (.reg [⟨some 6, none, .load false 1, [.t 1]⟩,
      ⟨some 7, none, .bin .lss, [.t 6, .c (.int .i64 1)]⟩])
    (.cond (.t 7) .ret .skip))
    (.seq (.reg [⟨some 4, none, .mv, [.c (.int .i64 0)]⟩])
    (.block 0 (.loop [0, 1, 2, 4] [] [] [] (.seq (.seq (.reg [⟨some 8, none, .mv, [.t 4]⟩,
      ⟨some 9, none, .load false 1, [.t 2]⟩,
      ⟨some 10, none, .len, [.t 9]⟩,
      ⟨some 11, none, .bin .lss, [.t 8, .t 10]⟩])
    (.cond (.t 11) .skip (.exit 0)))
    (.block 1 (.seq (.reg [⟨some 12, none, .mv, [.t 4]⟩,
      ⟨some 13, none, .load false 1, [.t 1]⟩,
      ⟨some 14, none, .load false 1, [.t 2]⟩,
      ⟨some 15, none, .len, [.t 14]⟩,
      ⟨some 16, none, .mv, [.t 4]⟩,
      ⟨some 17, none, .bin .sub, [.t 15, .t 16]⟩,
      ⟨some 18, none, .mn, [.t 13, .t 17]⟩,
      ⟨some 19, none, .bin .add, [.t 12, .t 18]⟩,
      ⟨some 5, none, .mv, [.t 19]⟩])
    (.seq (.seq (.reg [⟨some 20, none, .mv, [.t 0]⟩,
      ⟨some 21, none, .mv, [.t 4]⟩,
      ⟨some 22, none, .load false 1, [.t 2]⟩,
      ⟨some 23, none, .mv, [.t 4]⟩,
      ⟨some 24, none, .mv, [.t 5]⟩,
      ⟨some 25, none, .slcl 6 true true, [.t 22, .t 23, .t 24]⟩,
      ⟨some 26, none, .callh 9, [.t 25]⟩,
      ⟨some 27, none, .callv, [.t 20, .t 21, .t 26]⟩,
      ⟨some 28, none, .un .not, [.t 27]⟩])
    (.cond (.t 28) .ret .skip))
    (.reg [⟨some 29, none, .mv, [.t 5]⟩,
      ⟨some 4, none, .mv, [.t 29]⟩]))))))))) []

/-- tripwire/tripwireref45.num -/
def c29 : CFn := CFn.mk 1 [.t 2 false]
    (.seq (.reg [⟨some 2, none, .mv, [.c (.int .i64 0)]⟩])
    (.seq (.seq (.reg [⟨some 3, none, .mv, [.t 0]⟩,
      ⟨some 4, none, .bin .geq, [.t 3, .c (.int .i64 0)]⟩,
      ⟨some 5, none, .mv, [.t 4]⟩,
      ⟨some 6, (some (5, true)), .mv, [.t 0]⟩,
      ⟨some 7, (some (5, true)), .bin .leq, [.t 6, .c (.int .i64 2147483647)]⟩,
      ⟨some 8, none, .pick, [.t 5, .t 7, .c (.bool false)]⟩])
    (.cond (.t 8) (.seq (.reg [⟨some 9, none, .mv, [.t 0]⟩,
      ⟨some 2, none, .mv, [.t 9]⟩])
    .ret) .skip))
    (.seq (.reg [⟨some 2, none, .mv, [.c (.int .i64 0)]⟩])
    .ret))) []

/-- tripwire/load.sum -/
def c30 : CFn := CFn.mk 2 [.t 4 false]
    (.seq (.reg [⟨some 4, none, .mv, [.c (.int .i64 0)]⟩])
    (.seq (.reg [⟨some 5, none, .mv, [.t 0]⟩,
      ⟨some 6, none, .callh 31, [.t 5]⟩,
      ⟨some 7, none, .mv, [.t 1]⟩,
      ⟨some 8, none, .callh 31, [.t 7]⟩,
      ⟨some 9, none, .bin .add, [.t 6, .t 8]⟩,
      ⟨some 4, none, .mv, [.t 9]⟩])
    .ret)) []

/-- tripwire/load.num -/
def c31 : CFn := CFn.mk 1 [.t 2 false]
    (.seq (.reg [⟨some 2, none, .mv, [.c (.int .i64 0)]⟩])
    (.seq (.seq (.reg [⟨some 3, none, .mv, [.t 0]⟩,
      ⟨some 4, none, .bin .lss, [.t 3, .c (.int .i64 0)]⟩,
      ⟨some 5, none, .mv, [.t 4]⟩,
      ⟨some 6, (some (5, false)), .mv, [.t 0]⟩,
      ⟨some 7, (some (5, false)), .bin .gtr, [.t 6, .c (.int .i64 2147483647)]⟩,
      ⟨some 8, none, .pick, [.t 5, .c (.bool true), .t 7]⟩])
    (.cond (.t 8) (.seq (.reg [⟨some 2, none, .mv, [.c (.int .i64 0)]⟩])
    .ret) .skip))
    (.seq (.reg [⟨some 9, none, .mv, [.t 0]⟩,
      ⟨some 2, none, .mv, [.t 9]⟩])
    .ret))) []

/-- tripwire/load.mark -/
def c32 : CFn := CFn.mk 2 []
    (.seq (.reg [⟨some 3, none, .box, [.t 1]⟩])
    (.seq (.reg [⟨some 4, none, .fadr 2, [.t 3]⟩,
      ⟨some 5, none, .load false 1, [.t 4]⟩])
    (.block 0 (.seq (.reg [⟨some 7, none, .bin .eql, [.t 5, .c (.int .i64 3)]⟩,
      ⟨some 6, none, .mv, [.t 7]⟩])
    (.cond (.t 6) (.reg [⟨some 8, none, .mv, [.t 0]⟩,
      ⟨some 9, none, .nilc, [.t 8]⟩,
      ⟨some 10, none, .fadr 28, [.t 9]⟩,
      ⟨some 11, none, .load false 1, [.t 10]⟩,
      ⟨some 12, none, .bin .add, [.t 11, .c (.int .i64 1)]⟩,
      ⟨some 13, none, .nilc, [.t 8]⟩,
      ⟨some 14, none, .fadr 28, [.t 13]⟩,
      ⟨none, none, .store 1, [.t 14, .t 12]⟩]) (.seq (.reg [⟨some 16, none, .bin .eql, [.t 5, .c (.int .i64 2)]⟩,
      ⟨some 15, none, .mv, [.t 16]⟩])
    (.cond (.t 15) (.reg [⟨some 17, none, .mv, [.t 0]⟩,
      ⟨some 18, none, .nilc, [.t 17]⟩,
      ⟨some 19, none, .fadr 29, [.t 18]⟩,
      ⟨some 20, none, .load false 1, [.t 19]⟩,
      ⟨some 21, none, .bin .add, [.t 20, .c (.int .i64 1)]⟩,
      ⟨some 22, none, .nilc, [.t 17]⟩,
      ⟨some 23, none, .fadr 29, [.t 22]⟩,
      ⟨none, none, .store 1, [.t 23, .t 21]⟩]) (.seq (.reg [⟨some 25, none, .bin .eql, [.t 5, .c (.int .i64 6)]⟩,
      ⟨some 24, none, .mv, [.t 25]⟩])
    (.cond (.t 24) (.seq (.reg [⟨some 26, none, .fadr 3, [.t 3]⟩,
      ⟨some 27, none, .load false 1, [.t 26]⟩,
      ⟨some 28, none, .bin .geq, [.t 27, .c (.int .i64 1)]⟩,
      ⟨some 29, none, .mv, [.t 28]⟩,
      ⟨some 30, (some (29, true)), .fadr 3, [.t 3]⟩,
      ⟨some 31, (some (29, true)), .load false 1, [.t 30]⟩,
      ⟨some 32, (some (29, true)), .bin .leq, [.t 31, .c (.int .i64 2147483647)]⟩,
      ⟨some 33, none, .pick, [.t 29, .t 32, .c (.bool false)]⟩])
    (.cond (.t 33) (.draw 6 [0, 1, 3, 7, 0, 16, 63, 127, 255, 511] [⟨some 34, none, .mv, [.t 0]⟩,
      ⟨some 35, none, .nilc, [.t 34]⟩,
      ⟨some 36, none, .fadr 30, [.t 35]⟩,
      ⟨some 37, none, .load false 1, [.t 36]⟩,
      ⟨some 38, none, .fadr 3, [.t 3]⟩,
      ⟨some 39, none, .load false 1, [.t 38]⟩,
      ⟨some 40, none, .bin .add, [.t 37, .t 39]⟩,
      ⟨some 41, none, .nilc, [.t 34]⟩,
      ⟨some 42, none, .fadr 30, [.t 41]⟩,
      ⟨none, none, .store 1, [.t 42, .t 40]⟩]) .skip)) .skip))))))))) []

/-- tripwire/tripwireref37.plain -/
def c35 : CFn := CFn.mk 1 [.t 2 false]
    (.seq (.reg [⟨some 2, none, .mv, [.c (.str ⟨#[]⟩)]⟩])
    (.seq (.seq (.reg [⟨some 3, none, .mv, [.t 0]⟩,
      ⟨some 4, none, .bin .lss, [.t 3, .c (.int .u64 10)]⟩])
    (.cond (.t 4) (.seq (.reg [⟨some 5, none, .mv, [.t 0]⟩,
      ⟨some 6, none, .i2i .i64, [.t 5]⟩,
      ⟨some 7, none, .callh 40, [.t 6]⟩,
      ⟨some 2, none, .mv, [.t 7]⟩])
    .ret) .skip))
    (.seq (.reg [⟨some 8, none, .mv, [.t 0]⟩,
      ⟨some 9, none, .bin .quo, [.t 8, .c (.int .u64 10)]⟩,
      ⟨some 10, none, .callh 35, [.t 9]⟩,
      ⟨some 11, none, .mv, [.t 0]⟩,
      ⟨some 12, none, .bin .rem, [.t 11, .c (.int .u64 10)]⟩,
      ⟨some 13, none, .i2i .i64, [.t 12]⟩,
      ⟨some 14, none, .callh 40, [.t 13]⟩,
      ⟨some 15, none, .bin .add, [.t 10, .t 14]⟩,
      ⟨some 2, none, .mv, [.t 15]⟩])
    .ret))) []

/-- tripwire/tripwireref37.sign -/
def c40 : CFn := CFn.mk 1 [.t 2 false]
    (.seq (.reg [⟨some 2, none, .mv, [.c (.str ⟨#[]⟩)]⟩])
    (.seq (.reg [⟨some 3, none, .mv, [.t 0]⟩,
      ⟨some 4, none, .ixs, [.c (.str ⟨#[48, 49, 50, 51, 52, 53, 54, 55, 56, 57, 65, 66, 67, 68, 69, 70]⟩), .t 3]⟩,
      ⟨some 5, none, .bsl false 1 5, [.t 4]⟩,
      ⟨some 6, none, .b2s, [.t 5]⟩,
      ⟨some 2, none, .mv, [.t 6]⟩])
    .ret)) []

def codes : List (Nat × CFn) := [(3, c3), (4, c4), (5, c5), (6, c6), (7, c7), (8, c8), (9, c9), (10, c10), (11, c11), (12, c12), (13, c13), (14, c14), (15, c15), (16, c16), (17, c17), (18, c18), (19, c19), (20, c20), (21, c21), (22, c22), (23, c23), (24, c24), (25, c25), (26, c26), (27, c27), (28, c28), (29, c29), (30, c30), (31, c31), (32, c32), (35, c35), (40, c40)]
theorem k3 : chkAt Tryd.prog (3, c3) = true := by kernel_rfl
theorem k4 : chkAt Tryd.prog (4, c4) = true := by kernel_rfl
theorem k5 : chkAt Tryd.prog (5, c5) = true := by kernel_rfl
theorem k6 : chkAt Tryd.prog (6, c6) = true := by kernel_rfl
theorem k7 : chkAt Tryd.prog (7, c7) = true := by kernel_rfl
theorem k8 : chkAt Tryd.prog (8, c8) = true := by kernel_rfl
theorem k9 : chkAt Tryd.prog (9, c9) = true := by kernel_rfl
theorem k10 : chkAt Tryd.prog (10, c10) = true := by kernel_rfl
theorem k11 : chkAt Tryd.prog (11, c11) = true := by kernel_rfl
theorem k12 : chkAt Tryd.prog (12, c12) = true := by kernel_rfl
theorem k13 : chkAt Tryd.prog (13, c13) = true := by kernel_rfl
theorem k14 : chkAt Tryd.prog (14, c14) = true := by kernel_rfl
theorem k15 : chkAt Tryd.prog (15, c15) = true := by kernel_rfl
theorem k16 : chkAt Tryd.prog (16, c16) = true := by kernel_rfl
theorem k17 : chkAt Tryd.prog (17, c17) = true := by kernel_rfl
theorem k18 : chkAt Tryd.prog (18, c18) = true := by kernel_rfl
theorem k19 : chkAt Tryd.prog (19, c19) = true := by kernel_rfl
theorem k20 : chkAt Tryd.prog (20, c20) = true := by kernel_rfl
theorem k21 : chkAt Tryd.prog (21, c21) = true := by kernel_rfl
theorem k22 : chkAt Tryd.prog (22, c22) = true := by kernel_rfl
theorem k23 : chkAt Tryd.prog (23, c23) = true := by kernel_rfl
theorem k24 : chkAt Tryd.prog (24, c24) = true := by kernel_rfl
theorem k25 : chkAt Tryd.prog (25, c25) = true := by kernel_rfl
theorem k26 : chkAt Tryd.prog (26, c26) = true := by kernel_rfl
theorem k27 : chkAt Tryd.prog (27, c27) = true := by kernel_rfl
theorem k28 : chkAt Tryd.prog (28, c28) = true := by kernel_rfl
theorem k29 : chkAt Tryd.prog (29, c29) = true := by kernel_rfl
theorem k30 : chkAt Tryd.prog (30, c30) = true := by kernel_rfl
theorem k31 : chkAt Tryd.prog (31, c31) = true := by kernel_rfl
theorem k32 : chkAt Tryd.prog (32, c32) = true := by kernel_rfl
theorem k35 : chkAt Tryd.prog (35, c35) = true := by kernel_rfl
theorem k40 : chkAt Tryd.prog (40, c40) = true := by kernel_rfl
abbrev fns := fnsOf codes
theorem knows : Knows Tryd.prog fns := knows_of (ball_cons k3 (ball_cons k4 (ball_cons k5 (ball_cons k6 (ball_cons k7 (ball_cons k8 (ball_cons k9 (ball_cons k10 (ball_cons k11 (ball_cons k12 (ball_cons k13 (ball_cons k14 (ball_cons k15 (ball_cons k16 (ball_cons k17 (ball_cons k18 (ball_cons k19 (ball_cons k20 (ball_cons k21 (ball_cons k22 (ball_cons k23 (ball_cons k24 (ball_cons k25 (ball_cons k26 (ball_cons k27 (ball_cons k28 (ball_cons k29 (ball_cons k30 (ball_cons k31 (ball_cons k32 (ball_cons k35 (ball_cons k40 ball_nil))))))))))))))))))))))))))))))))
end Go.Proofs.YtbbpkkeaddbcnaaDoor.ZJM.LD
