/- Compact codes. -/
import Derived.Test.YtnagbdodcjlbjaaZJ23
import Derived.Test.YtnagbdodcjlbjaaProg
import Derived.KernelRfl
namespace Go.Proofs.Ytnagbdodcjlbjaa.ZJM.DC
open Go.Proofs.Ytnagbdodcjlbjaa.ZJM

/-- tripwire/tripwirelaw15.AreaLays -/
def c3 : CFn := CFn.mk 2 [.t 4 false]
    (.seq (.reg [⟨some 2, none, .box, [.t 0]⟩,
      ⟨some 3, none, .box, [.t 1]⟩,
      ⟨some 4, none, .mv, [.c (.bool false)]⟩])
    (.seq (.reg [⟨some 14, none, .call 11 false, []⟩,
      ⟨some 5, none, .mv, [.t 14]⟩])
    (.seq (.reg [⟨some 6, none, .alloc [(.lst none true 7 []), (.int .i64 0)], []⟩])
    (.seq (.reg [⟨some 16, none, .load true 2, [.t 6]⟩,
      ⟨some 17, none, .load true 2, [.t 2]⟩,
      ⟨some 18, none, .load true 4, [.t 3]⟩,
      ⟨some 19, none, .callh 12, [.t 16, .t 17, .t 18, .c (.lst none true 1 [])]⟩,
      ⟨some 15, none, .mv, [.t 19]⟩,
      ⟨some 20, none, .ext 0, [.t 15]⟩,
      ⟨some 21, none, .ext 1, [.t 15]⟩,
      ⟨none, none, .store 2, [.t 6, .t 20]⟩,
      ⟨some 7, none, .mv, [.t 21]⟩])
    (.seq (.reg [⟨some 22, none, .mv, [.t 5]⟩,
      ⟨some 23, none, .load true 2, [.t 2]⟩,
      ⟨some 24, none, .load true 4, [.t 3]⟩,
      ⟨some 25, none, .call 13 false, [.t 22, .t 23, .t 24, .c (.lst none true 1 [])]⟩,
      ⟨some 8, none, .mv, [.t 25]⟩])
    (.seq (.reg [⟨some 9, none, .mv, [.c (.int .i64 0)]⟩])
    (.seq (.reg [⟨some 26, none, .callh 14, []⟩,
      ⟨some 10, none, .mv, [.t 26]⟩])
    (.seq (.seq (.reg [⟨some 11, none, .mv, [.c (.int .i64 0)]⟩])
    (.block 0 (.loop [5, 6, 7, 8, 9, 10, 11] [6] [] [5] (.seq (.seq (.reg [⟨some 27, none, .mv, [.t 11]⟩,
      ⟨some 28, none, .mv, [.t 10]⟩,
      ⟨some 29, none, .len, [.t 28]⟩,
      ⟨some 30, none, .bin .lss, [.t 27, .t 29]⟩,
      ⟨some 31, none, .mv, [.t 30]⟩,
      ⟨some 32, (some (31, true)), .mv, [.t 9]⟩,
      ⟨some 33, (some (31, true)), .bin .eql, [.t 32, .c (.int .i64 0)]⟩,
      ⟨some 34, none, .pick, [.t 31, .t 33, .c (.bool false)]⟩])
    (.cond (.t 34) .skip (.exit 0)))
    (.seq (.block 1 (.seq (.draw 1000000 [0, 0, 0, 6, 14, 30, 0, 0, 192, 448, 960, 0, 0, 6144, 14336, 30720, 63488, 131071, 262143, 524287, 524287, 0, 3145727, 8388607] [⟨some 38, none, .load true 2, [.t 6]⟩,
      ⟨some 39, none, .mv, [.t 10]⟩,
      ⟨some 40, none, .mv, [.t 11]⟩,
      ⟨some 41, none, .ladr 7, [.t 39, .t 40]⟩,
      ⟨some 42, none, .fadr 0, [.t 41]⟩,
      ⟨some 43, none, .load true 2, [.t 42]⟩,
      ⟨some 44, none, .mv, [.t 10]⟩,
      ⟨some 45, none, .mv, [.t 11]⟩,
      ⟨some 46, none, .ladr 7, [.t 44, .t 45]⟩,
      ⟨some 47, none, .fadr 2, [.t 46]⟩,
      ⟨some 48, none, .load true 4, [.t 47]⟩,
      ⟨some 49, none, .mv, [.t 10]⟩,
      ⟨some 50, none, .mv, [.t 11]⟩,
      ⟨some 51, none, .ladr 7, [.t 49, .t 50]⟩,
      ⟨some 52, none, .fadr 6, [.t 51]⟩,
      ⟨some 53, none, .load false 1, [.t 52]⟩,
      ⟨some 54, none, .s2b false 5, [.t 53]⟩,
      ⟨some 55, none, .callh 12, [.t 38, .t 43, .t 48, .t 54]⟩,
      ⟨some 37, none, .mv, [.t 55]⟩,
      ⟨some 56, none, .ext 0, [.t 37]⟩,
      ⟨some 57, none, .ext 1, [.t 37]⟩,
      ⟨some 12, none, .alloc [(.lst none true 7 []), (.int .i64 0)], []⟩,
      ⟨none, none, .store 2, [.t 12, .t 56]⟩,
      ⟨some 13, none, .mv, [.t 57]⟩])
    (.seq (.reg [⟨some 58, none, .mv, [.t 13]⟩,
      ⟨some 9, none, .mv, [.t 58]⟩])
    (.seq (.reg [⟨some 59, none, .mv, [.t 13]⟩,
      ⟨some 60, none, .bin .eql, [.t 59, .c (.int .i64 0)]⟩])
    (.cond (.t 60) (.reg [⟨some 61, none, .load true 2, [.t 12]⟩,
      ⟨none, none, .store 2, [.t 6, .t 61]⟩]) .skip)))))
    (.reg [⟨some 35, none, .mv, [.t 11]⟩,
      ⟨some 36, none, .bin .add, [.t 35, .c (.int .i64 1)]⟩,
      ⟨some 11, none, .mv, [.t 36]⟩]))))))
    (.seq (.reg [⟨some 62, none, .callh 15, []⟩,
      ⟨some 63, none, .mv, [.t 62]⟩,
      ⟨some 64, (some (63, true)), .mv, [.t 7]⟩,
      ⟨some 65, (some (63, true)), .mv, [.t 8]⟩,
      ⟨some 66, (some (63, true)), .bin .eql, [.t 64, .t 65]⟩,
      ⟨some 67, none, .pick, [.t 63, .t 66, .c (.bool false)]⟩,
      ⟨some 68, none, .mv, [.t 67]⟩,
      ⟨some 69, (some (68, true)), .mv, [.t 5]⟩,
      ⟨some 70, (some (68, true)), .call 16 false, [.t 69]⟩,
      ⟨some 71, (some (68, true)), .mv, [.t 9]⟩,
      ⟨some 72, (some (68, true)), .bin .eql, [.t 70, .t 71]⟩,
      ⟨some 73, none, .pick, [.t 68, .t 72, .c (.bool false)]⟩,
      ⟨some 74, none, .mv, [.t 73]⟩,
      ⟨some 75, (some (74, true)), .mv, [.t 5]⟩,
      ⟨some 76, (some (74, true)), .load true 2, [.t 6]⟩,
      ⟨some 77, (some (74, true)), .call 17 false, [.t 75, .t 76]⟩,
      ⟨some 78, none, .pick, [.t 74, .t 77, .c (.bool false)]⟩,
      ⟨some 79, none, .mv, [.t 78]⟩,
      ⟨some 80, (some (79, true)), .call 16 false, [.c .nilp]⟩,
      ⟨some 81, (some (79, true)), .bin .eql, [.t 80, .c (.int .i64 1)]⟩,
      ⟨some 82, none, .pick, [.t 79, .t 81, .c (.bool false)]⟩,
      ⟨some 4, none, .mv, [.t 82]⟩])
    .ret))))))))) []

/-- tripwire/tripwirelaw15.AreaWords -/
def c4 : CFn := CFn.mk 2 [.t 4 false]
    (.seq (.reg [⟨some 2, none, .box, [.t 0]⟩,
      ⟨some 4, none, .mv, [.c (.bool false)]⟩])
    (.seq (.reg [⟨some 16, none, .load true 3, [.t 2]⟩,
      ⟨some 17, none, .callh 18, [.t 16]⟩,
      ⟨some 15, none, .mv, [.t 17]⟩,
      ⟨some 18, none, .ext 0, [.t 15]⟩,
      ⟨some 19, none, .ext 1, [.t 15]⟩,
      ⟨some 5, none, .mv, [.t 18]⟩,
      ⟨some 6, none, .mv, [.t 19]⟩])
    (.seq (.reg [⟨some 21, none, .load true 3, [.t 2]⟩,
      ⟨some 22, none, .callh 19, [.t 21]⟩,
      ⟨some 20, none, .mv, [.t 22]⟩,
      ⟨some 23, none, .ext 0, [.t 20]⟩,
      ⟨some 24, none, .ext 1, [.t 20]⟩,
      ⟨some 7, none, .mv, [.t 23]⟩,
      ⟨some 8, none, .mv, [.t 24]⟩])
    (.seq (.seq (.reg [⟨some 25, none, .mv, [.t 5]⟩,
      ⟨some 26, none, .mv, [.t 7]⟩,
      ⟨some 27, none, .bin .neq, [.t 25, .t 26]⟩,
      ⟨some 28, none, .mv, [.t 27]⟩,
      ⟨some 29, (some (28, false)), .mv, [.t 6]⟩,
      ⟨some 30, (some (28, false)), .mv, [.t 8]⟩,
      ⟨some 31, (some (28, false)), .bin .neq, [.t 29, .t 30]⟩,
      ⟨some 32, none, .pick, [.t 28, .c (.bool true), .t 31]⟩])
    (.cond (.t 32) (.seq (.reg [⟨some 4, none, .mv, [.c (.bool false)]⟩])
    .ret) .skip))
    (.seq (.seq (.reg [⟨some 33, none, .mv, [.t 6]⟩,
      ⟨some 34, none, .bin .eql, [.t 33, .c (.int .i64 0)]⟩])
    (.cond (.t 34) (.seq (.reg [⟨some 36, none, .mv, [.t 5]⟩,
      ⟨some 37, none, .callh 20, [.t 36]⟩,
      ⟨some 35, none, .mv, [.t 37]⟩,
      ⟨some 38, none, .ext 0, [.t 35]⟩,
      ⟨some 39, none, .ext 1, [.t 35]⟩,
      ⟨some 9, none, .alloc [(.int .i64 0), (.int .i64 0), (.int .i64 0)], []⟩,
      ⟨none, none, .store 3, [.t 9, .t 38]⟩,
      ⟨some 10, none, .mv, [.t 39]⟩])
    (.seq (.reg [⟨some 40, none, .mv, [.t 10]⟩,
      ⟨some 41, none, .bin .neq, [.t 40, .c (.int .i64 0)]⟩,
      ⟨some 42, none, .mv, [.t 41]⟩,
      ⟨some 43, (some (42, false)), .load true 3, [.t 9]⟩,
      ⟨some 44, (some (42, false)), .load true 3, [.t 2]⟩,
      ⟨some 45, (some (42, false)), .eq [(0, 0), (1, 0), (2, 0)] true, [.t 43, .t 44]⟩,
      ⟨some 46, none, .pick, [.t 42, .c (.bool true), .t 45]⟩])
    (.cond (.t 46) (.seq (.reg [⟨some 4, none, .mv, [.c (.bool false)]⟩])
    .ret) .skip))) .skip))
    (.seq (.reg [⟨some 48, none, .mv, [.t 1]⟩,
      ⟨some 49, none, .callh 20, [.t 48]⟩,
      ⟨some 47, none, .mv, [.t 49]⟩,
      ⟨some 50, none, .ext 0, [.t 47]⟩,
      ⟨some 51, none, .ext 1, [.t 47]⟩,
      ⟨some 11, none, .alloc [(.int .i64 0), (.int .i64 0), (.int .i64 0)], []⟩,
      ⟨none, none, .store 3, [.t 11, .t 50]⟩,
      ⟨some 12, none, .mv, [.t 51]⟩])
    (.seq (.seq (.reg [⟨some 52, none, .mv, [.t 1]⟩,
      ⟨some 53, none, .bin .lss, [.t 52, .c (.int .i64 0)]⟩,
      ⟨some 54, none, .mv, [.t 53]⟩,
      ⟨some 55, (some (54, false)), .mv, [.t 1]⟩,
      ⟨some 56, (some (54, false)), .bin .gtr, [.t 55, .c (.int .i64 4294967295)]⟩,
      ⟨some 57, none, .pick, [.t 54, .c (.bool true), .t 56]⟩])
    (.cond (.t 57) (.seq (.reg [⟨some 58, none, .callh 15, []⟩,
      ⟨some 59, none, .mv, [.t 58]⟩,
      ⟨some 60, (some (59, true)), .mv, [.t 12]⟩,
      ⟨some 61, (some (59, true)), .bin .eql, [.t 60, .c (.int .i64 2)]⟩,
      ⟨some 62, none, .pick, [.t 59, .t 61, .c (.bool false)]⟩,
      ⟨some 63, none, .mv, [.t 62]⟩,
      ⟨some 64, (some (63, true)), .load true 3, [.t 11]⟩,
      ⟨some 65, (some (63, true)), .build [(.int .i64 0), (.int .i64 0), (.int .i64 0)] [], []⟩,
      ⟨some 66, (some (63, true)), .eq [(0, 0), (1, 0), (2, 0)] false, [.t 64, .t 65]⟩,
      ⟨some 67, none, .pick, [.t 63, .t 66, .c (.bool false)]⟩,
      ⟨some 4, none, .mv, [.t 67]⟩])
    .ret) .skip))
    (.seq (.reg [⟨some 69, none, .load true 3, [.t 11]⟩,
      ⟨some 70, none, .callh 18, [.t 69]⟩,
      ⟨some 68, none, .mv, [.t 70]⟩,
      ⟨some 71, none, .ext 0, [.t 68]⟩,
      ⟨some 72, none, .ext 1, [.t 68]⟩,
      ⟨some 13, none, .mv, [.t 71]⟩,
      ⟨some 14, none, .mv, [.t 72]⟩])
    (.seq (.draw 18 [0, 1, 3, 7, 15, 31, 63, 63, 191, 511, 1023, 2047, 4095, 8191, 16383, 32767, 65535, 65535, 262143, 524287, 1048575] [⟨some 73, none, .callh 15, []⟩,
      ⟨some 74, none, .mv, [.t 73]⟩,
      ⟨some 75, (some (74, true)), .mv, [.t 12]⟩,
      ⟨some 76, (some (74, true)), .bin .eql, [.t 75, .c (.int .i64 0)]⟩,
      ⟨some 77, none, .pick, [.t 74, .t 76, .c (.bool false)]⟩,
      ⟨some 78, none, .mv, [.t 77]⟩,
      ⟨some 79, (some (78, true)), .load true 3, [.t 11]⟩,
      ⟨some 80, (some (78, true)), .mv, [.t 1]⟩,
      ⟨some 81, (some (78, true)), .callh 21, [.t 80]⟩,
      ⟨some 82, (some (78, true)), .eq [(0, 0), (1, 0), (2, 0)] false, [.t 79, .t 81]⟩,
      ⟨some 83, none, .pick, [.t 78, .t 82, .c (.bool false)]⟩,
      ⟨some 84, none, .mv, [.t 83]⟩,
      ⟨some 85, (some (84, true)), .mv, [.t 14]⟩,
      ⟨some 86, (some (84, true)), .bin .eql, [.t 85, .c (.int .i64 0)]⟩,
      ⟨some 87, none, .pick, [.t 84, .t 86, .c (.bool false)]⟩,
      ⟨some 88, none, .mv, [.t 87]⟩,
      ⟨some 89, (some (88, true)), .mv, [.t 13]⟩,
      ⟨some 90, (some (88, true)), .mv, [.t 1]⟩,
      ⟨some 91, (some (88, true)), .bin .eql, [.t 89, .t 90]⟩,
      ⟨some 92, none, .pick, [.t 88, .t 91, .c (.bool false)]⟩,
      ⟨some 4, none, .mv, [.t 92]⟩])
    .ret))))))))) []

/-- tripwire/tripwirelaw14.DictPlays -/
def c9 : CFn := CFn.mk 1 [.t 2 false]
    (.seq (.reg [⟨some 2, none, .mv, [.c (.bool false)]⟩])
    (.seq (.reg [⟨some 7, none, .call 11 false, []⟩,
      ⟨some 3, none, .mv, [.t 7]⟩])
    (.seq (.reg [⟨some 4, none, .alloc [(.lst none true 7 []), (.int .i64 0)], []⟩])
    (.seq (.seq (.reg [⟨some 5, none, .mv, [.c (.int .i64 0)]⟩])
    (.block 0 (.loop [0, 3, 4, 5] [4] [] [3] (.seq (.seq (.reg [⟨some 8, none, .mv, [.t 5]⟩,
      ⟨some 9, none, .mv, [.t 0]⟩,
      ⟨some 10, none, .len, [.t 9]⟩,
      ⟨some 11, none, .bin .lss, [.t 8, .t 10]⟩,
      ⟨some 12, none, .mv, [.t 11]⟩,
      ⟨some 13, (some (12, true)), .mv, [.t 5]⟩,
      ⟨some 14, (some (12, true)), .bin .lss, [.t 13, .c (.int .i64 40)]⟩,
      ⟨some 15, none, .pick, [.t 12, .t 14, .c (.bool false)]⟩])
    (.cond (.t 15) .skip (.exit 0)))
    (.seq (.block 1 (.seq (.reg [⟨some 6, none, .mv, [.c (.bool true)]⟩])
    (.seq (.draw 1000000 [0, 0, 0, 0, 12, 28, 63, 127, 255, 255, 255, 511, 3071, 8191] [⟨some 19, none, .mv, [.t 3]⟩,
      ⟨some 20, none, .load true 2, [.t 4]⟩,
      ⟨some 21, none, .mv, [.t 0]⟩,
      ⟨some 22, none, .mv, [.t 5]⟩,
      ⟨some 23, none, .ladr 9, [.t 21, .t 22]⟩,
      ⟨some 24, none, .load true 9, [.t 23]⟩,
      ⟨some 25, none, .call 49 false, [.t 19, .t 20, .t 24]⟩,
      ⟨some 18, none, .mv, [.t 25]⟩,
      ⟨some 26, none, .ext 0, [.t 18]⟩,
      ⟨some 27, none, .ext 1, [.t 18]⟩,
      ⟨some 28, none, .ext 2, [.t 18]⟩,
      ⟨some 3, none, .mv, [.t 26]⟩,
      ⟨none, none, .store 2, [.t 4, .t 27]⟩,
      ⟨some 6, none, .mv, [.t 28]⟩])
    (.seq (.reg [⟨some 29, none, .mv, [.t 6]⟩,
      ⟨some 30, none, .un .not, [.t 29]⟩,
      ⟨some 31, none, .mv, [.t 30]⟩,
      ⟨some 32, (some (31, false)), .mv, [.t 3]⟩,
      ⟨some 33, (some (31, false)), .load true 2, [.t 4]⟩,
      ⟨some 34, (some (31, false)), .call 50 false, [.t 32, .t 33]⟩,
      ⟨some 35, (some (31, false)), .un .not, [.t 34]⟩,
      ⟨some 36, none, .pick, [.t 31, .c (.bool true), .t 35]⟩])
    (.cond (.t 36) (.seq (.reg [⟨some 2, none, .mv, [.c (.bool false)]⟩])
    .ret) .skip)))))
    (.reg [⟨some 16, none, .mv, [.t 5]⟩,
      ⟨some 17, none, .bin .add, [.t 16, .c (.int .i64 1)]⟩,
      ⟨some 5, none, .mv, [.t 17]⟩]))))))
    (.seq (.reg [⟨some 37, none, .callh 28, []⟩,
      ⟨some 2, none, .mv, [.t 37]⟩])
    .ret))))) []

/-- tripwire/dict.New -/
def c11 : CFn := CFn.mk 0 [.t 0 false]
    (.seq (.reg [⟨some 0, none, .mv, [.c .nilp]⟩])
    (.seq (.reg [⟨some 1, none, .call 52 false, []⟩,
      ⟨some 2, none, .build [.nilp, (.int .i64 0)] [(0, 1)], [.t 1]⟩,
      ⟨some 3, none, .box, [.t 2]⟩,
      ⟨some 0, none, .mv, [.t 3]⟩])
    .ret)) []

/-- tripwire/tripwireref14.Add -/
def c12 : CFn := CFn.mk 4 [.cell 8 true 2, .t 9 false]
    (.seq (.reg [⟨some 4, none, .box, [.t 0]⟩,
      ⟨some 5, none, .box, [.t 1]⟩,
      ⟨some 6, none, .box, [.t 2]⟩,
      ⟨some 8, none, .alloc [(.lst none true 7 []), (.int .i64 0)], []⟩,
      ⟨some 9, none, .mv, [.c (.int .i64 0)]⟩])
    (.seq (.seq (.reg [⟨some 11, none, .load true 2, [.t 5]⟩,
      ⟨some 12, none, .callh 44, [.t 11]⟩,
      ⟨some 13, none, .un .not, [.t 12]⟩,
      ⟨some 14, none, .mv, [.t 13]⟩,
      ⟨some 15, (some (14, false)), .load true 4, [.t 6]⟩,
      ⟨some 16, (some (14, false)), .callh 53, [.t 15]⟩,
      ⟨some 17, (some (14, false)), .un .not, [.t 16]⟩,
      ⟨some 18, none, .pick, [.t 14, .c (.bool true), .t 17]⟩])
    (.cond (.t 18) (.seq (.reg [⟨some 19, none, .load true 2, [.t 4]⟩,
      ⟨none, none, .store 2, [.t 8, .t 19]⟩,
      ⟨some 9, none, .mv, [.c (.int .i64 2)]⟩])
    .ret) .skip))
    (.seq (.reg [⟨some 20, none, .mv, [.t 3]⟩,
      ⟨some 10, none, .mv, [.t 20]⟩])
    (.seq (.seq (.reg [⟨some 21, none, .mv, [.t 3]⟩,
      ⟨some 22, none, .len, [.t 21]⟩,
      ⟨some 23, none, .bin .eql, [.t 22, .c (.int .i64 0)]⟩,
      ⟨some 24, none, .mv, [.t 23]⟩,
      ⟨some 25, (some (24, true)), .load true 4, [.t 6]⟩,
      ⟨some 26, (some (24, true)), .mv, [.t 3]⟩,
      ⟨some 27, (some (24, true)), .callh 27, [.t 25, .t 26]⟩,
      ⟨some 28, (some (24, true)), .bin .neq, [.t 27, .c (.int .i64 0)]⟩,
      ⟨some 29, none, .pick, [.t 24, .t 28, .c (.bool false)]⟩])
    (.cond (.t 29) (.reg [⟨some 30, none, .load true 4, [.t 6]⟩,
      ⟨some 31, none, .callh 54, [.t 30]⟩,
      ⟨some 10, none, .mv, [.t 31]⟩]) .skip))
    (.seq (.seq (.reg [⟨some 32, none, .load true 4, [.t 6]⟩,
      ⟨some 33, none, .mv, [.t 10]⟩,
      ⟨some 34, none, .callh 27, [.t 32, .t 33]⟩,
      ⟨some 35, none, .bin .neq, [.t 34, .c (.int .i64 0)]⟩])
    (.cond (.t 35) (.seq (.reg [⟨some 36, none, .load true 2, [.t 4]⟩,
      ⟨none, none, .store 2, [.t 8, .t 36]⟩,
      ⟨some 9, none, .mv, [.c (.int .i64 14)]⟩])
    .ret) .skip))
    (.seq (.seq (.reg [⟨some 37, none, .load true 2, [.t 4]⟩,
      ⟨some 38, none, .load true 2, [.t 5]⟩,
      ⟨some 39, none, .callh 33, [.t 37, .t 38]⟩,
      ⟨some 40, none, .bin .geq, [.t 39, .c (.int .i64 0)]⟩])
    (.cond (.t 40) (.seq (.reg [⟨some 41, none, .load true 2, [.t 4]⟩,
      ⟨none, none, .store 2, [.t 8, .t 41]⟩,
      ⟨some 9, none, .mv, [.c (.int .i64 8)]⟩])
    .ret) .skip))
    (.seq (.seq (.reg [⟨some 42, none, .fadr 0, [.t 4]⟩,
      ⟨some 43, none, .load false 1, [.t 42]⟩,
      ⟨some 44, none, .len, [.t 43]⟩,
      ⟨some 45, none, .bin .eql, [.t 44, .c (.int .i64 512)]⟩])
    (.cond (.t 45) (.seq (.reg [⟨some 46, none, .load true 2, [.t 4]⟩,
      ⟨none, none, .store 2, [.t 8, .t 46]⟩,
      ⟨some 9, none, .mv, [.c (.int .i64 6)]⟩])
    .ret) .skip))
    (.seq (.draw 1000000 [0, 0, 2, 7, 0, 0, 0, 64, 240, 496, 1023, 2047, 4095] [⟨some 47, none, .bsl true 7 39, []⟩,
      ⟨some 48, none, .fadr 0, [.t 4]⟩,
      ⟨some 49, none, .load false 1, [.t 48]⟩,
      ⟨some 50, none, .app false 7 64 39, [.t 47, .t 49]⟩,
      ⟨some 51, none, .load true 2, [.t 5]⟩,
      ⟨some 52, none, .load true 4, [.t 6]⟩,
      ⟨some 53, none, .mv, [.t 10]⟩,
      ⟨some 54, none, .b2s, [.t 53]⟩,
      ⟨some 55, none, .build [(.int .i64 0), (.int .i64 0), (.int .i64 0), (.int .i64 0), (.int .i64 0), (.int .i64 0), (.str ByteArray.empty)] [(0, 2), (2, 4), (6, 1)], [.t 51, .t 52, .t 54]⟩,
      ⟨some 56, none, .bsl false 7 39, [.t 55]⟩,
      ⟨some 57, none, .app false 7 64 39, [.t 50, .t 56]⟩,
      ⟨some 58, none, .fadr 0, [.t 4]⟩,
      ⟨none, none, .store 1, [.t 58, .t 57]⟩])
    (.seq (.reg [⟨some 59, none, .load true 2, [.t 4]⟩,
      ⟨none, none, .store 2, [.t 8, .t 59]⟩,
      ⟨some 9, none, .mv, [.c (.int .i64 0)]⟩])
    .ret))))))))) []

/-- (*tripwire/dict.Dict).Add -/
def c13 : CFn := CFn.mk 4 [.t 8 false]
    (.seq (.reg [⟨some 5, none, .box, [.t 1]⟩,
      ⟨some 6, none, .box, [.t 2]⟩,
      ⟨some 8, none, .mv, [.c (.int .i64 0)]⟩])
    (.seq (.block 0 (.seq (.reg [⟨some 12, none, .mv, [.t 0]⟩,
      ⟨some 13, none, .pnil false, [.t 12]⟩,
      ⟨some 11, none, .mv, [.t 13]⟩])
    (.cond (.t 11) (.seq (.reg [⟨some 8, none, .mv, [.c (.int .i64 1)]⟩])
    .ret) (.seq (.reg [⟨some 15, none, .load true 2, [.t 5]⟩,
      ⟨some 16, none, .callh 55, [.t 15]⟩,
      ⟨some 17, none, .bin .lss, [.t 16, .c (.int .i64 0)]⟩,
      ⟨some 18, none, .mv, [.t 17]⟩,
      ⟨some 19, (some (18, false)), .load true 4, [.t 6]⟩,
      ⟨some 20, (some (18, false)), .callh 56, [.t 19]⟩,
      ⟨some 21, (some (18, false)), .un .not, [.t 20]⟩,
      ⟨some 22, none, .pick, [.t 18, .c (.bool true), .t 21]⟩,
      ⟨some 14, none, .mv, [.t 22]⟩])
    (.cond (.t 14) (.seq (.reg [⟨some 8, none, .mv, [.c (.int .i64 2)]⟩])
    .ret) .skip)))))
    (.seq (.seq (.reg [⟨some 23, none, .mv, [.t 3]⟩,
      ⟨some 24, none, .len, [.t 23]⟩,
      ⟨some 25, none, .bin .eql, [.t 24, .c (.int .i64 0)]⟩,
      ⟨some 26, none, .mv, [.t 25]⟩,
      ⟨some 27, (some (26, true)), .load true 4, [.t 6]⟩,
      ⟨some 28, (some (26, true)), .mv, [.t 3]⟩,
      ⟨some 29, (some (26, true)), .callh 57, [.t 27, .t 28]⟩,
      ⟨some 30, (some (26, true)), .bin .neq, [.t 29, .c (.int .i64 0)]⟩,
      ⟨some 31, none, .pick, [.t 26, .t 30, .c (.bool false)]⟩])
    (.cond (.t 31) (.reg [⟨some 32, none, .load true 4, [.t 6]⟩,
      ⟨some 33, none, .callh 58, [.t 32]⟩,
      ⟨some 3, none, .mv, [.t 33]⟩]) .skip))
    (.seq (.seq (.reg [⟨some 34, none, .load true 4, [.t 6]⟩,
      ⟨some 35, none, .mv, [.t 3]⟩,
      ⟨some 36, none, .callh 57, [.t 34, .t 35]⟩,
      ⟨some 37, none, .bin .neq, [.t 36, .c (.int .i64 0)]⟩])
    (.cond (.t 37) (.seq (.reg [⟨some 8, none, .mv, [.c (.int .i64 14)]⟩])
    .ret) .skip))
    (.seq (.seq (.reg [⟨some 39, none, .mv, [.t 0]⟩,
      ⟨some 40, none, .load true 2, [.t 5]⟩,
      ⟨some 41, none, .call 59 false, [.t 39, .t 40]⟩,
      ⟨some 38, none, .mv, [.t 41]⟩,
      ⟨some 42, none, .ext 0, [.t 38]⟩,
      ⟨some 43, none, .ext 1, [.t 38]⟩,
      ⟨some 9, none, .alloc [(.int .i64 0), (.int .i64 0), (.int .i64 0), (.int .i64 0), (.lst none true 1 [])], []⟩,
      ⟨none, none, .store 5, [.t 9, .t 42]⟩,
      ⟨some 10, none, .mv, [.t 43]⟩])
    (.seq (.reg [⟨some 44, none, .mv, [.t 10]⟩])
    (.cond (.t 44) (.seq (.reg [⟨some 8, none, .mv, [.c (.int .i64 8)]⟩])
    .ret) .skip)))
    (.seq (.seq (.reg [⟨some 45, none, .mv, [.t 0]⟩,
      ⟨some 46, none, .nilc, [.t 45]⟩,
      ⟨some 47, none, .fadr 0, [.t 46]⟩,
      ⟨some 48, none, .load false 1, [.t 47]⟩,
      ⟨some 49, none, .call 60 false, [.t 48]⟩,
      ⟨some 50, none, .bin .geq, [.t 49, .c (.int .i64 512)]⟩])
    (.cond (.t 50) (.seq (.reg [⟨some 8, none, .mv, [.c (.int .i64 6)]⟩])
    .ret) .skip))
    (.seq (.draw 10 [0, 1, 3, 7, 0, 16, 0, 0, 176, 496, 1023] [⟨some 51, none, .mv, [.t 0]⟩,
      ⟨some 52, none, .nilc, [.t 51]⟩,
      ⟨some 53, none, .fadr 0, [.t 52]⟩,
      ⟨some 54, none, .load false 1, [.t 53]⟩,
      ⟨some 55, none, .load true 2, [.t 5]⟩,
      ⟨some 56, none, .callh 55, [.t 55]⟩,
      ⟨some 57, none, .load true 4, [.t 6]⟩,
      ⟨some 58, none, .mv, [.t 3]⟩,
      ⟨some 59, none, .callh 62, [.t 58]⟩,
      ⟨some 60, none, .build [(.int .i64 0), (.int .i64 0), (.int .i64 0), (.int .i64 0), (.lst none true 1 [])] [(0, 4), (4, 1)], [.t 57, .t 59]⟩,
      ⟨some 61, none, .call 61 false, [.t 54, .t 56, .t 60]⟩])
    (.seq (.reg [⟨some 8, none, .mv, [.c (.int .i64 0)]⟩])
    .ret)))))))) []

/-- tripwire/tripwireref15.Rows -/
def c14 : CFn := CFn.mk 0 [.t 0 false]
    (.seq (.reg [⟨some 0, none, .nil false 7 39, []⟩])
    (.seq (.reg [⟨some 6, none, .bsl true 7 39, []⟩,
      ⟨some 1, none, .mv, [.t 6]⟩])
    (.seq (.seq (.reg [⟨some 2, none, .mv, [.c (.int .i64 0)]⟩])
    (.block 0 (.loop [1, 2] [] [6] [] (.seq (.seq (.reg [⟨some 7, none, .mv, [.t 2]⟩,
      ⟨some 8, none, .bin .lss, [.t 7, .c (.int .i64 4)]⟩])
    (.cond (.t 8) .skip (.exit 0)))
    (.seq (.block 1 (.seq (.reg [⟨some 11, none, .mv, [.t 1]⟩,
      ⟨some 12, none, .mv, [.t 2]⟩,
      ⟨some 13, none, .bin .add, [.c (.int .i64 4865), .t 12]⟩,
      ⟨some 14, none, .callh 63, [.t 13, .c (.int .i64 0), .c (.int .i64 2), .c (.int .i64 6), .c (.int .i64 6), .c (.bool true)]⟩,
      ⟨some 15, none, .bsl false 7 39, [.t 14]⟩,
      ⟨some 16, none, .app false 7 64 39, [.t 11, .t 15]⟩,
      ⟨some 1, none, .mv, [.t 16]⟩])
    (.seq (.reg [⟨some 17, none, .mv, [.t 1]⟩,
      ⟨some 18, none, .mv, [.t 2]⟩,
      ⟨some 19, none, .bin .add, [.c (.int .i64 4865), .t 18]⟩,
      ⟨some 20, none, .callh 63, [.t 19, .c (.int .i64 1), .c (.int .i64 2), .c (.int .i64 0), .c (.int .i64 2), .c (.bool false)]⟩,
      ⟨some 21, none, .bsl false 7 39, [.t 20]⟩,
      ⟨some 22, none, .app false 7 64 39, [.t 17, .t 21]⟩,
      ⟨some 1, none, .mv, [.t 22]⟩])
    (.seq (.reg [⟨some 23, none, .mv, [.t 1]⟩,
      ⟨some 24, none, .mv, [.t 2]⟩,
      ⟨some 25, none, .bin .add, [.c (.int .i64 4865), .t 24]⟩,
      ⟨some 26, none, .callh 63, [.t 25, .c (.int .i64 2), .c (.int .i64 3), .c (.int .i64 1), .c (.int .i64 65535), .c (.bool false)]⟩,
      ⟨some 27, none, .bsl false 7 39, [.t 26]⟩,
      ⟨some 28, none, .app false 7 64 39, [.t 23, .t 27]⟩,
      ⟨some 1, none, .mv, [.t 28]⟩])
    (.seq (.reg [⟨some 29, none, .mv, [.t 1]⟩,
      ⟨some 30, none, .mv, [.t 2]⟩,
      ⟨some 31, none, .bin .add, [.c (.int .i64 4865), .t 30]⟩,
      ⟨some 32, none, .callh 63, [.t 31, .c (.int .i64 3), .c (.int .i64 3), .c (.int .i64 1), .c (.int .i64 65535), .c (.bool false)]⟩,
      ⟨some 33, none, .bsl false 7 39, [.t 32]⟩,
      ⟨some 34, none, .app false 7 64 39, [.t 29, .t 33]⟩,
      ⟨some 1, none, .mv, [.t 34]⟩])
    (.seq (.reg [⟨some 35, none, .mv, [.t 1]⟩,
      ⟨some 36, none, .mv, [.t 2]⟩,
      ⟨some 37, none, .bin .add, [.c (.int .i64 4865), .t 36]⟩,
      ⟨some 38, none, .callh 63, [.t 37, .c (.int .i64 4), .c (.int .i64 2), .c (.int .i64 254), .c (.int .i64 254), .c (.bool true)]⟩,
      ⟨some 39, none, .bsl false 7 39, [.t 38]⟩,
      ⟨some 40, none, .app false 7 64 39, [.t 35, .t 39]⟩,
      ⟨some 1, none, .mv, [.t 40]⟩])
    (.seq (.reg [⟨some 41, none, .mv, [.t 1]⟩,
      ⟨some 42, none, .mv, [.t 2]⟩,
      ⟨some 43, none, .bin .add, [.c (.int .i64 4865), .t 42]⟩,
      ⟨some 44, none, .callh 63, [.t 43, .c (.int .i64 5), .c (.int .i64 4), .c (.int .i64 257), .c (.int .i64 383), .c (.bool false)]⟩,
      ⟨some 45, none, .bsl false 7 39, [.t 44]⟩,
      ⟨some 46, none, .app false 7 64 39, [.t 41, .t 45]⟩,
      ⟨some 1, none, .mv, [.t 46]⟩])
    (.reg [⟨some 47, none, .mv, [.t 1]⟩,
      ⟨some 48, none, .mv, [.t 2]⟩,
      ⟨some 49, none, .bin .add, [.c (.int .i64 4865), .t 48]⟩,
      ⟨some 50, none, .callh 63, [.t 49, .c (.int .i64 6), .c (.int .i64 4), .c (.int .i64 258), .c (.int .i64 384), .c (.bool false)]⟩,
      ⟨some 51, none, .bsl false 7 39, [.t 50]⟩,
      ⟨some 52, none, .app false 7 64 39, [.t 47, .t 51]⟩,
      ⟨some 1, none, .mv, [.t 52]⟩]))))))))
    (.reg [⟨some 9, none, .mv, [.t 2]⟩,
      ⟨some 10, none, .bin .add, [.t 9, .c (.int .i64 1)]⟩,
      ⟨some 2, none, .mv, [.t 10]⟩]))))))
    (.seq (.seq (.reg [⟨some 3, none, .mv, [.c (.int .i64 0)]⟩])
    (.block 2 (.loop [1, 3] [] [6] [] (.seq (.seq (.reg [⟨some 53, none, .mv, [.t 3]⟩,
      ⟨some 54, none, .bin .lss, [.t 53, .c (.int .i64 4)]⟩])
    (.cond (.t 54) .skip (.exit 2)))
    (.seq (.block 3 (.seq (.reg [⟨some 57, none, .mv, [.t 1]⟩,
      ⟨some 58, none, .mv, [.t 3]⟩,
      ⟨some 59, none, .bin .add, [.c (.int .i64 4993), .t 58]⟩,
      ⟨some 60, none, .callh 63, [.t 59, .c (.int .i64 0), .c (.int .i64 2), .c (.int .i64 0), .c (.int .i64 8), .c (.bool false)]⟩,
      ⟨some 61, none, .bsl false 7 39, [.t 60]⟩,
      ⟨some 62, none, .app false 7 64 39, [.t 57, .t 61]⟩,
      ⟨some 1, none, .mv, [.t 62]⟩])
    (.seq (.reg [⟨some 4, none, .mv, [.c (.int .i64 1)]⟩])
    (.block 4 (.loop [1, 3, 4] [] [6] [] (.seq (.seq (.reg [⟨some 63, none, .mv, [.t 4]⟩,
      ⟨some 64, none, .bin .leq, [.t 63, .c (.int .i64 8)]⟩])
    (.cond (.t 64) .skip (.exit 4)))
    (.seq (.block 5 (.reg [⟨some 67, none, .mv, [.t 1]⟩,
      ⟨some 68, none, .mv, [.t 3]⟩,
      ⟨some 69, none, .bin .add, [.c (.int .i64 4993), .t 68]⟩,
      ⟨some 70, none, .mv, [.t 4]⟩,
      ⟨some 71, none, .callh 63, [.t 69, .t 70, .c (.int .i64 4), .c (.int .i64 0), .c (.int .i64 4294967295), .c (.bool false)]⟩,
      ⟨some 72, none, .bsl false 7 39, [.t 71]⟩,
      ⟨some 73, none, .app false 7 64 39, [.t 67, .t 72]⟩,
      ⟨some 1, none, .mv, [.t 73]⟩]))
    (.reg [⟨some 65, none, .mv, [.t 4]⟩,
      ⟨some 66, none, .bin .add, [.t 65, .c (.int .i64 1)]⟩,
      ⟨some 4, none, .mv, [.t 66]⟩]))))))))
    (.reg [⟨some 55, none, .mv, [.t 3]⟩,
      ⟨some 56, none, .bin .add, [.t 55, .c (.int .i64 1)]⟩,
      ⟨some 3, none, .mv, [.t 56]⟩]))))))
    (.seq (.reg [⟨some 74, none, .mv, [.t 1]⟩,
      ⟨some 75, none, .callh 63, [.c (.int .i64 5118), .c (.int .i64 0), .c (.int .i64 2), .c (.int .i64 0), .c (.int .i64 255), .c (.bool false)]⟩,
      ⟨some 76, none, .bsl false 7 39, [.t 75]⟩,
      ⟨some 77, none, .app false 7 64 39, [.t 74, .t 76]⟩,
      ⟨some 1, none, .mv, [.t 77]⟩])
    (.seq (.reg [⟨some 78, none, .mv, [.t 1]⟩,
      ⟨some 79, none, .callh 63, [.c (.int .i64 5119), .c (.int .i64 0), .c (.int .i64 2), .c (.int .i64 4), .c (.int .i64 4), .c (.bool true)]⟩,
      ⟨some 80, none, .bsl false 7 39, [.t 79]⟩,
      ⟨some 81, none, .app false 7 64 39, [.t 78, .t 80]⟩,
      ⟨some 1, none, .mv, [.t 81]⟩])
    (.seq (.seq (.reg [⟨some 5, none, .mv, [.c (.int .i64 1)]⟩])
    (.block 6 (.loop [1, 5] [] [6] [] (.seq (.seq (.reg [⟨some 82, none, .mv, [.t 5]⟩,
      ⟨some 83, none, .bin .leq, [.t 82, .c (.int .i64 4)]⟩])
    (.cond (.t 83) .skip (.exit 6)))
    (.seq (.block 7 (.reg [⟨some 86, none, .mv, [.t 1]⟩,
      ⟨some 87, none, .mv, [.t 5]⟩,
      ⟨some 88, none, .callh 63, [.c (.int .i64 5119), .t 87, .c (.int .i64 3), .c (.int .i64 0), .c (.int .i64 65535), .c (.bool false)]⟩,
      ⟨some 89, none, .bsl false 7 39, [.t 88]⟩,
      ⟨some 90, none, .app false 7 64 39, [.t 86, .t 89]⟩,
      ⟨some 1, none, .mv, [.t 90]⟩]))
    (.reg [⟨some 84, none, .mv, [.t 5]⟩,
      ⟨some 85, none, .bin .add, [.t 84, .c (.int .i64 1)]⟩,
      ⟨some 5, none, .mv, [.t 85]⟩]))))))
    (.seq (.reg [⟨some 91, none, .mv, [.t 1]⟩,
      ⟨some 0, none, .mv, [.t 91]⟩])
    .ret)))))))) []

/-- tripwire/tripwirelaw15.live -/
def c15 : CFn := CFn.mk 0 [.t 0 false]
    (.seq (.reg [⟨some 0, none, .mv, [.c (.bool false)]⟩])
    (.seq (.reg [⟨some 7, none, .build [(.int .i64 0), (.int .i64 0)] [(0, 1), (1, 1)], [.c (.int .i64 8192), .c (.int .i64 1)]⟩,
      ⟨some 8, none, .build [(.int .i64 0), (.int .i64 0), (.int .i64 0)] [(0, 2), (2, 1)], [.t 7, .c (.int .i64 16)]⟩,
      ⟨some 9, none, .callh 18, [.t 8]⟩,
      ⟨some 6, none, .mv, [.t 9]⟩,
      ⟨some 10, none, .ext 0, [.t 6]⟩,
      ⟨some 11, none, .ext 1, [.t 6]⟩,
      ⟨some 1, none, .mv, [.t 10]⟩,
      ⟨some 2, none, .mv, [.t 11]⟩])
    (.seq (.reg [⟨some 12, none, .call 11 false, []⟩,
      ⟨some 3, none, .mv, [.t 12]⟩])
    (.seq (.reg [⟨some 13, none, .mv, [.t 3]⟩,
      ⟨some 14, none, .call 16 false, [.t 13]⟩,
      ⟨some 4, none, .mv, [.t 14]⟩])
    (.seq (.reg [⟨some 15, none, .mv, [.t 3]⟩,
      ⟨some 16, none, .call 64 false, [.t 15, .c (.bool true)]⟩,
      ⟨some 5, none, .mv, [.t 16]⟩])
    (.seq (.reg [⟨some 17, none, .mv, [.t 2]⟩,
      ⟨some 18, none, .bin .eql, [.t 17, .c (.int .i64 0)]⟩,
      ⟨some 19, none, .mv, [.t 18]⟩,
      ⟨some 20, (some (19, true)), .mv, [.t 1]⟩,
      ⟨some 21, (some (19, true)), .bin .eql, [.t 20, .c (.int .i64 536871184)]⟩,
      ⟨some 22, none, .pick, [.t 19, .t 21, .c (.bool false)]⟩,
      ⟨some 23, none, .mv, [.t 22]⟩,
      ⟨some 24, (some (23, true)), .mv, [.t 4]⟩,
      ⟨some 25, (some (23, true)), .bin .eql, [.t 24, .c (.int .i64 0)]⟩,
      ⟨some 26, none, .pick, [.t 23, .t 25, .c (.bool false)]⟩,
      ⟨some 27, none, .mv, [.t 26]⟩,
      ⟨some 28, (some (27, true)), .mv, [.t 5]⟩,
      ⟨some 29, (some (27, true)), .bin .eql, [.t 28, .c (.int .i64 0)]⟩,
      ⟨some 30, none, .pick, [.t 27, .t 29, .c (.bool false)]⟩,
      ⟨some 31, none, .mv, [.t 30]⟩,
      ⟨some 32, (some (31, true)), .mv, [.t 3]⟩,
      ⟨some 33, (some (31, true)), .call 65 false, [.t 32]⟩,
      ⟨some 34, none, .pick, [.t 31, .t 33, .c (.bool false)]⟩,
      ⟨some 35, none, .mv, [.t 34]⟩,
      ⟨some 36, (some (35, true)), .mv, [.t 3]⟩,
      ⟨some 37, (some (35, true)), .call 45 false, [.t 36]⟩,
      ⟨some 38, (some (35, true)), .bin .eql, [.t 37, .c (.int .i64 70)]⟩,
      ⟨some 39, none, .pick, [.t 35, .t 38, .c (.bool false)]⟩,
      ⟨some 0, none, .mv, [.t 39]⟩])
    .ret)))))) []

/-- tripwire/area.Lay -/
def c16 : CFn := CFn.mk 1 [.t 2 false]
    (.seq (.reg [⟨some 2, none, .mv, [.c (.int .i64 0)]⟩])
    (.seq (.seq (.reg [⟨some 10, none, .mv, [.t 0]⟩,
      ⟨some 11, none, .pnil false, [.t 10]⟩])
    (.cond (.t 11) (.seq (.reg [⟨some 2, none, .mv, [.c (.int .i64 1)]⟩])
    .ret) .skip))
    (.seq (.seq (.reg [⟨some 12, none, .mv, [.c (.int .i64 0)]⟩])
    (.block 0 (.loop [0, 12] [] [] [] (.seq (.reg [⟨some 13, none, .bin .lss, [.t 12, .c (.int .i64 4)]⟩])
    (.seq (.cond (.t 13) .skip (.exit 0))
    (.seq (.block 1 (.seq (.reg [⟨some 14, none, .mv, [.t 12]⟩,
      ⟨some 3, none, .mv, [.t 14]⟩])
    (.seq (.reg [⟨some 15, none, .mv, [.t 0]⟩,
      ⟨some 16, none, .mv, [.t 3]⟩,
      ⟨some 17, none, .bin .add, [.c (.int .i64 4865), .t 16]⟩,
      ⟨some 18, none, .callh 67, []⟩,
      ⟨some 19, none, .call 66 false, [.t 15, .t 17, .t 18]⟩,
      ⟨some 4, none, .mv, [.t 19]⟩])
    (.seq (.reg [⟨some 20, none, .mv, [.t 4]⟩,
      ⟨some 21, none, .bin .neq, [.t 20, .c (.int .i64 0)]⟩])
    (.cond (.t 21) (.seq (.reg [⟨some 22, none, .mv, [.t 4]⟩,
      ⟨some 2, none, .mv, [.t 22]⟩])
    .ret) .skip)))))
    (.reg [⟨some 23, none, .bin .add, [.t 12, .c (.int .i64 1)]⟩,
      ⟨some 12, none, .mv, [.t 23]⟩])))))))
    (.seq (.seq (.reg [⟨some 24, none, .mv, [.c (.int .i64 0)]⟩])
    (.block 2 (.loop [0, 24] [] [] [] (.seq (.reg [⟨some 25, none, .bin .lss, [.t 24, .c (.int .i64 4)]⟩])
    (.seq (.cond (.t 25) .skip (.exit 2))
    (.seq (.block 3 (.seq (.reg [⟨some 26, none, .mv, [.t 24]⟩,
      ⟨some 5, none, .mv, [.t 26]⟩])
    (.seq (.reg [⟨some 27, none, .build [(.int .i64 0), (.int .i64 0), (.int .i64 0), (.int .i64 0), (.bool false)] [(0, 1), (1, 1), (2, 1), (3, 1), (4, 1)], [.c (.int .i64 0), .c (.int .i64 2), .c (.int .i64 0), .c (.int .i64 8), .c (.bool false)]⟩,
      ⟨some 28, none, .bsl true 5 122, [.t 27]⟩,
      ⟨some 29, none, .callh 68, [.c (.int .i64 1), .c (.int .i64 8), .c (.int .i64 4)]⟩,
      ⟨some 30, none, .app false 5 40 122, [.t 28, .t 29]⟩,
      ⟨some 6, none, .mv, [.t 30]⟩])
    (.seq (.reg [⟨some 31, none, .mv, [.t 0]⟩,
      ⟨some 32, none, .mv, [.t 5]⟩,
      ⟨some 33, none, .bin .add, [.c (.int .i64 4993), .t 32]⟩,
      ⟨some 34, none, .mv, [.t 6]⟩,
      ⟨some 35, none, .call 66 false, [.t 31, .t 33, .t 34]⟩,
      ⟨some 7, none, .mv, [.t 35]⟩])
    (.seq (.reg [⟨some 36, none, .mv, [.t 7]⟩,
      ⟨some 37, none, .bin .neq, [.t 36, .c (.int .i64 0)]⟩])
    (.cond (.t 37) (.seq (.reg [⟨some 38, none, .mv, [.t 7]⟩,
      ⟨some 2, none, .mv, [.t 38]⟩])
    .ret) .skip))))))
    (.reg [⟨some 39, none, .bin .add, [.t 24, .c (.int .i64 1)]⟩,
      ⟨some 24, none, .mv, [.t 39]⟩])))))))
    (.seq (.seq (.reg [⟨some 40, none, .mv, [.t 0]⟩,
      ⟨some 41, none, .callh 68, [.c (.int .i64 0), .c (.int .i64 1), .c (.int .i64 2)]⟩,
      ⟨some 42, none, .call 66 false, [.t 40, .c (.int .i64 5118), .t 41]⟩,
      ⟨some 8, none, .mv, [.t 42]⟩])
    (.seq (.reg [⟨some 43, none, .mv, [.t 8]⟩,
      ⟨some 44, none, .bin .neq, [.t 43, .c (.int .i64 0)]⟩])
    (.cond (.t 44) (.seq (.reg [⟨some 45, none, .mv, [.t 8]⟩,
      ⟨some 2, none, .mv, [.t 45]⟩])
    .ret) .skip)))
    (.seq (.reg [⟨some 46, none, .build [(.int .i64 0), (.int .i64 0), (.int .i64 0), (.int .i64 0), (.bool false)] [(0, 1), (1, 1), (2, 1), (3, 1), (4, 1)], [.c (.int .i64 0), .c (.int .i64 2), .c (.int .i64 4), .c (.int .i64 4), .c (.bool true)]⟩,
      ⟨some 47, none, .bsl true 5 122, [.t 46]⟩,
      ⟨some 48, none, .callh 68, [.c (.int .i64 1), .c (.int .i64 4), .c (.int .i64 3)]⟩,
      ⟨some 49, none, .app false 5 40 122, [.t 47, .t 48]⟩,
      ⟨some 9, none, .mv, [.t 49]⟩])
    (.seq (.reg [⟨some 50, none, .mv, [.t 0]⟩,
      ⟨some 51, none, .mv, [.t 9]⟩,
      ⟨some 52, none, .call 66 false, [.t 50, .c (.int .i64 5119), .t 51]⟩,
      ⟨some 2, none, .mv, [.t 52]⟩])
    .ret))))))) []

/-- tripwire/tripwirelaw15.Same -/
def c17 : CFn := CFn.mk 2 [.t 4 false]
    (.seq (.reg [⟨some 3, none, .box, [.t 1]⟩,
      ⟨some 4, none, .mv, [.c (.bool false)]⟩])
    (.seq (.seq (.draw 1000000 [0, 1, 0, 4, 12, 31] [⟨some 8, none, .mv, [.t 0]⟩,
      ⟨some 9, none, .call 45 false, [.t 8]⟩,
      ⟨some 10, none, .fadr 0, [.t 3]⟩,
      ⟨some 11, none, .load false 1, [.t 10]⟩,
      ⟨some 12, none, .len, [.t 11]⟩,
      ⟨some 13, none, .bin .neq, [.t 9, .t 12]⟩])
    (.cond (.t 13) (.seq (.reg [⟨some 4, none, .mv, [.c (.bool false)]⟩])
    .ret) .skip))
    (.seq (.seq (.reg [⟨some 5, none, .mv, [.c (.int .i64 0)]⟩])
    (.block 0 (.loop [0, 3, 5] [3] [] [] (.seq (.seq (.reg [⟨some 14, none, .mv, [.t 5]⟩,
      ⟨some 15, none, .fadr 0, [.t 3]⟩,
      ⟨some 16, none, .load false 1, [.t 15]⟩,
      ⟨some 17, none, .len, [.t 16]⟩,
      ⟨some 18, none, .bin .lss, [.t 14, .t 17]⟩])
    (.cond (.t 18) .skip (.exit 0)))
    (.seq (.block 1 (.seq (.reg [⟨some 22, none, .mv, [.t 0]⟩,
      ⟨some 23, none, .fadr 0, [.t 3]⟩,
      ⟨some 24, none, .load false 1, [.t 23]⟩,
      ⟨some 25, none, .mv, [.t 5]⟩,
      ⟨some 26, none, .ladr 7, [.t 24, .t 25]⟩,
      ⟨some 27, none, .fadr 0, [.t 26]⟩,
      ⟨some 28, none, .load true 2, [.t 27]⟩,
      ⟨some 29, none, .call 26 false, [.t 22, .t 28]⟩,
      ⟨some 21, none, .mv, [.t 29]⟩,
      ⟨some 30, none, .ext 0, [.t 21]⟩,
      ⟨some 31, none, .ext 1, [.t 21]⟩,
      ⟨some 6, none, .mv, [.t 30]⟩,
      ⟨some 7, none, .mv, [.t 31]⟩])
    (.seq (.draw 11 [0, 1, 3, 7, 15, 7, 39, 7, 231, 487, 999, 2047, 4095] [⟨some 32, none, .mv, [.t 7]⟩,
      ⟨some 33, none, .un .not, [.t 32]⟩,
      ⟨some 34, none, .mv, [.t 33]⟩,
      ⟨some 35, (some (34, false)), .mv, [.t 6]⟩,
      ⟨some 36, (some (34, false)), .b2s, [.t 35]⟩,
      ⟨some 37, (some (34, false)), .fadr 0, [.t 3]⟩,
      ⟨some 38, (some (34, false)), .load false 1, [.t 37]⟩,
      ⟨some 39, (some (34, false)), .mv, [.t 5]⟩,
      ⟨some 40, (some (34, false)), .ladr 7, [.t 38, .t 39]⟩,
      ⟨some 41, (some (34, false)), .fadr 6, [.t 40]⟩,
      ⟨some 42, (some (34, false)), .load false 1, [.t 41]⟩,
      ⟨some 43, (some (34, false)), .bin .neq, [.t 36, .t 42]⟩,
      ⟨some 44, none, .pick, [.t 34, .c (.bool true), .t 43]⟩])
    (.cond (.t 44) (.seq (.reg [⟨some 4, none, .mv, [.c (.bool false)]⟩])
    .ret) .skip))))
    (.reg [⟨some 19, none, .mv, [.t 5]⟩,
      ⟨some 20, none, .bin .add, [.t 19, .c (.int .i64 1)]⟩,
      ⟨some 5, none, .mv, [.t 20]⟩]))))))
    (.seq (.reg [⟨some 4, none, .mv, [.c (.bool true)]⟩])
    .ret)))) []

/-- tripwire/area.Word -/
def c18 : CFn := CFn.mk 1 [.t 2 false, .t 3 false]
    (.seq (.reg [⟨some 1, none, .box, [.t 0]⟩,
      ⟨some 2, none, .mv, [.c (.int .i64 0)]⟩,
      ⟨some 3, none, .mv, [.c (.int .i64 0)]⟩])
    (.seq (.reg [⟨some 5, none, .fadr 0, [.t 1]⟩,
      ⟨some 6, none, .load true 2, [.t 5]⟩,
      ⟨some 4, none, .alloc [(.int .i64 0), (.int .i64 0)], []⟩,
      ⟨none, none, .store 2, [.t 4, .t 6]⟩])
    (.seq (.seq (.reg [⟨some 7, none, .fadr 0, [.t 4]⟩,
      ⟨some 8, none, .load false 1, [.t 7]⟩,
      ⟨some 9, none, .bin .lss, [.t 8, .c (.int .i64 0)]⟩,
      ⟨some 10, none, .mv, [.t 9]⟩,
      ⟨some 11, (some (10, false)), .fadr 0, [.t 4]⟩,
      ⟨some 12, (some (10, false)), .load false 1, [.t 11]⟩,
      ⟨some 13, (some (10, false)), .bin .gtr, [.t 12, .c (.int .i64 65535)]⟩,
      ⟨some 14, none, .pick, [.t 10, .c (.bool true), .t 13]⟩,
      ⟨some 15, none, .mv, [.t 14]⟩,
      ⟨some 16, (some (15, false)), .fadr 1, [.t 4]⟩,
      ⟨some 17, (some (15, false)), .load false 1, [.t 16]⟩,
      ⟨some 18, (some (15, false)), .bin .lss, [.t 17, .c (.int .i64 0)]⟩,
      ⟨some 19, none, .pick, [.t 15, .c (.bool true), .t 18]⟩,
      ⟨some 20, none, .mv, [.t 19]⟩,
      ⟨some 21, (some (20, false)), .fadr 1, [.t 4]⟩,
      ⟨some 22, (some (20, false)), .load false 1, [.t 21]⟩,
      ⟨some 23, (some (20, false)), .bin .gtr, [.t 22, .c (.int .i64 255)]⟩,
      ⟨some 24, none, .pick, [.t 20, .c (.bool true), .t 23]⟩,
      ⟨some 25, none, .mv, [.t 24]⟩,
      ⟨some 26, (some (25, false)), .fadr 2, [.t 1]⟩,
      ⟨some 27, (some (25, false)), .load false 1, [.t 26]⟩,
      ⟨some 28, (some (25, false)), .bin .lss, [.t 27, .c (.int .i64 0)]⟩,
      ⟨some 29, none, .pick, [.t 25, .c (.bool true), .t 28]⟩,
      ⟨some 30, none, .mv, [.t 29]⟩,
      ⟨some 31, (some (30, false)), .fadr 2, [.t 1]⟩,
      ⟨some 32, (some (30, false)), .load false 1, [.t 31]⟩,
      ⟨some 33, (some (30, false)), .bin .gtr, [.t 32, .c (.int .i64 255)]⟩,
      ⟨some 34, none, .pick, [.t 30, .c (.bool true), .t 33]⟩])
    (.cond (.t 34) (.seq (.reg [⟨some 2, none, .mv, [.c (.int .i64 0)]⟩,
      ⟨some 3, none, .mv, [.c (.int .i64 2)]⟩])
    .ret) .skip))
    (.seq (.reg [⟨some 35, none, .fadr 0, [.t 4]⟩,
      ⟨some 36, none, .load false 1, [.t 35]⟩,
      ⟨some 37, none, .bin .shl, [.t 36, .c (.int .u64 16)]⟩,
      ⟨some 38, none, .fadr 1, [.t 4]⟩,
      ⟨some 39, none, .load false 1, [.t 38]⟩,
      ⟨some 40, none, .bin .shl, [.t 39, .c (.int .u64 8)]⟩,
      ⟨some 41, none, .bin .or, [.t 37, .t 40]⟩,
      ⟨some 42, none, .fadr 2, [.t 1]⟩,
      ⟨some 43, none, .load false 1, [.t 42]⟩,
      ⟨some 44, none, .bin .or, [.t 41, .t 43]⟩,
      ⟨some 2, none, .mv, [.t 44]⟩,
      ⟨some 3, none, .mv, [.c (.int .i64 0)]⟩])
    .ret)))) []

/-- tripwire/tripwireref15.Word -/
def c19 : CFn := CFn.mk 1 [.t 2 false, .t 3 false]
    (.seq (.reg [⟨some 1, none, .box, [.t 0]⟩,
      ⟨some 2, none, .mv, [.c (.int .i64 0)]⟩,
      ⟨some 3, none, .mv, [.c (.int .i64 0)]⟩])
    (.seq (.seq (.reg [⟨some 4, none, .fadr 0, [.t 1]⟩,
      ⟨some 5, none, .fadr 0, [.t 4]⟩,
      ⟨some 6, none, .load false 1, [.t 5]⟩,
      ⟨some 7, none, .bin .lss, [.t 6, .c (.int .i64 0)]⟩,
      ⟨some 8, none, .mv, [.t 7]⟩,
      ⟨some 9, (some (8, false)), .fadr 0, [.t 1]⟩,
      ⟨some 10, (some (8, false)), .fadr 0, [.t 9]⟩,
      ⟨some 11, (some (8, false)), .load false 1, [.t 10]⟩,
      ⟨some 12, (some (8, false)), .bin .gtr, [.t 11, .c (.int .i64 65535)]⟩,
      ⟨some 13, none, .pick, [.t 8, .c (.bool true), .t 12]⟩,
      ⟨some 14, none, .mv, [.t 13]⟩,
      ⟨some 15, (some (14, false)), .fadr 0, [.t 1]⟩,
      ⟨some 16, (some (14, false)), .fadr 1, [.t 15]⟩,
      ⟨some 17, (some (14, false)), .load false 1, [.t 16]⟩,
      ⟨some 18, (some (14, false)), .bin .lss, [.t 17, .c (.int .i64 0)]⟩,
      ⟨some 19, none, .pick, [.t 14, .c (.bool true), .t 18]⟩,
      ⟨some 20, none, .mv, [.t 19]⟩,
      ⟨some 21, (some (20, false)), .fadr 0, [.t 1]⟩,
      ⟨some 22, (some (20, false)), .fadr 1, [.t 21]⟩,
      ⟨some 23, (some (20, false)), .load false 1, [.t 22]⟩,
      ⟨some 24, (some (20, false)), .bin .gtr, [.t 23, .c (.int .i64 255)]⟩,
      ⟨some 25, none, .pick, [.t 20, .c (.bool true), .t 24]⟩,
      ⟨some 26, none, .mv, [.t 25]⟩,
      ⟨some 27, (some (26, false)), .fadr 2, [.t 1]⟩,
      ⟨some 28, (some (26, false)), .load false 1, [.t 27]⟩,
      ⟨some 29, (some (26, false)), .bin .lss, [.t 28, .c (.int .i64 0)]⟩,
      ⟨some 30, none, .pick, [.t 26, .c (.bool true), .t 29]⟩,
      ⟨some 31, none, .mv, [.t 30]⟩,
      ⟨some 32, (some (31, false)), .fadr 2, [.t 1]⟩,
      ⟨some 33, (some (31, false)), .load false 1, [.t 32]⟩,
      ⟨some 34, (some (31, false)), .bin .gtr, [.t 33, .c (.int .i64 255)]⟩,
      ⟨some 35, none, .pick, [.t 31, .c (.bool true), .t 34]⟩])
    (.cond (.t 35) (.seq (.reg [⟨some 2, none, .mv, [.c (.int .i64 0)]⟩,
      ⟨some 3, none, .mv, [.c (.int .i64 2)]⟩])
    .ret) .skip))
    (.seq (.reg [⟨some 36, none, .fadr 0, [.t 1]⟩,
      ⟨some 37, none, .fadr 0, [.t 36]⟩,
      ⟨some 38, none, .load false 1, [.t 37]⟩,
      ⟨some 39, none, .bin .mul, [.t 38, .c (.int .i64 65536)]⟩,
      ⟨some 40, none, .fadr 0, [.t 1]⟩,
      ⟨some 41, none, .fadr 1, [.t 40]⟩,
      ⟨some 42, none, .load false 1, [.t 41]⟩,
      ⟨some 43, none, .bin .mul, [.t 42, .c (.int .i64 256)]⟩,
      ⟨some 44, none, .bin .add, [.t 39, .t 43]⟩,
      ⟨some 45, none, .fadr 2, [.t 1]⟩,
      ⟨some 46, none, .load false 1, [.t 45]⟩,
      ⟨some 47, none, .bin .add, [.t 44, .t 46]⟩,
      ⟨some 2, none, .mv, [.t 47]⟩,
      ⟨some 3, none, .mv, [.c (.int .i64 0)]⟩])
    .ret))) []

/-- tripwire/area.Slot -/
def c20 : CFn := CFn.mk 1 [.cell 2 true 3, .t 3 false]
    (.seq (.reg [⟨some 2, none, .alloc [(.int .i64 0), (.int .i64 0), (.int .i64 0)], []⟩,
      ⟨some 3, none, .mv, [.c (.int .i64 0)]⟩])
    (.seq (.seq (.reg [⟨some 4, none, .mv, [.t 0]⟩,
      ⟨some 5, none, .callh 69, [.c (.int .i64 4), .t 4]⟩,
      ⟨some 6, none, .un .not, [.t 5]⟩])
    (.cond (.t 6) (.seq (.reg [⟨some 7, none, .build [(.int .i64 0), (.int .i64 0), (.int .i64 0)] [], []⟩,
      ⟨none, none, .store 3, [.t 2, .t 7]⟩,
      ⟨some 3, none, .mv, [.c (.int .i64 2)]⟩])
    .ret) .skip))
    (.seq (.reg [⟨some 8, none, .mv, [.t 0]⟩,
      ⟨some 9, none, .bin .shr, [.t 8, .c (.int .u64 16)]⟩,
      ⟨some 10, none, .mv, [.t 0]⟩,
      ⟨some 11, none, .bin .shr, [.t 10, .c (.int .u64 8)]⟩,
      ⟨some 12, none, .bin .and, [.t 11, .c (.int .i64 255)]⟩,
      ⟨some 13, none, .build [(.int .i64 0), (.int .i64 0)] [(0, 1), (1, 1)], [.t 9, .t 12]⟩,
      ⟨some 14, none, .mv, [.t 0]⟩,
      ⟨some 15, none, .bin .and, [.t 14, .c (.int .i64 255)]⟩,
      ⟨some 16, none, .build [(.int .i64 0), (.int .i64 0), (.int .i64 0)] [(0, 2), (2, 1)], [.t 13, .t 15]⟩,
      ⟨none, none, .store 3, [.t 2, .t 16]⟩,
      ⟨some 3, none, .mv, [.c (.int .i64 0)]⟩])
    .ret))) []

/-- tripwire/tripwireref15.Slot -/
def c21 : CFn := CFn.mk 1 [.cell 2 true 3]
    (.seq (.reg [⟨some 2, none, .alloc [(.int .i64 0), (.int .i64 0), (.int .i64 0)], []⟩])
    (.seq (.reg [⟨some 3, none, .mv, [.t 0]⟩,
      ⟨some 4, none, .bin .quo, [.t 3, .c (.int .i64 65536)]⟩,
      ⟨some 5, none, .mv, [.t 0]⟩,
      ⟨some 6, none, .bin .quo, [.t 5, .c (.int .i64 256)]⟩,
      ⟨some 7, none, .bin .rem, [.t 6, .c (.int .i64 256)]⟩,
      ⟨some 8, none, .build [(.int .i64 0), (.int .i64 0)] [(0, 1), (1, 1)], [.t 4, .t 7]⟩,
      ⟨some 9, none, .mv, [.t 0]⟩,
      ⟨some 10, none, .bin .rem, [.t 9, .c (.int .i64 256)]⟩,
      ⟨some 11, none, .build [(.int .i64 0), (.int .i64 0), (.int .i64 0)] [(0, 2), (2, 1)], [.t 8, .t 10]⟩,
      ⟨none, none, .store 3, [.t 2, .t 11]⟩])
    .ret)) []

/-- (*tripwire/dict.Dict).Fork -/
def c23 : CFn := CFn.mk 1 [.t 2 false]
    (.seq (.reg [⟨some 2, none, .mv, [.c .nilp]⟩])
    (.seq (.seq (.reg [⟨some 3, none, .mv, [.t 0]⟩,
      ⟨some 4, none, .pnil false, [.t 3]⟩])
    (.cond (.t 4) (.seq (.reg [⟨some 2, none, .mv, [.c .nilp]⟩])
    .ret) .skip))
    (.seq (.draw 1000000 [0, 1, 3, 7, 15, 0, 32, 96, 224, 511, 1023, 2047] [⟨some 5, none, .mv, [.t 0]⟩,
      ⟨some 6, none, .nilc, [.t 5]⟩,
      ⟨some 7, none, .fadr 0, [.t 6]⟩,
      ⟨some 8, none, .load false 1, [.t 7]⟩,
      ⟨some 9, none, .call 70 false, [.t 8]⟩,
      ⟨some 10, none, .mv, [.t 0]⟩,
      ⟨some 11, none, .nilc, [.t 10]⟩,
      ⟨some 12, none, .fadr 1, [.t 11]⟩,
      ⟨some 13, none, .load false 1, [.t 12]⟩,
      ⟨some 14, none, .build [.nilp, (.int .i64 0)] [(0, 1), (1, 1)], [.t 9, .t 13]⟩,
      ⟨some 15, none, .box, [.t 14]⟩,
      ⟨some 2, none, .mv, [.t 15]⟩])
    .ret))) []

/-- (*tripwire/dict.Dict).Changes -/
def c24 : CFn := CFn.mk 1 [.t 2 false]
    (.seq (.reg [⟨some 2, none, .mv, [.c (.int .i64 0)]⟩])
    (.seq (.seq (.reg [⟨some 3, none, .mv, [.t 0]⟩,
      ⟨some 4, none, .pnil false, [.t 3]⟩])
    (.cond (.t 4) (.seq (.reg [⟨some 2, none, .mv, [.c (.int .i64 0)]⟩])
    .ret) .skip))
    (.seq (.reg [⟨some 5, none, .mv, [.t 0]⟩,
      ⟨some 6, none, .nilc, [.t 5]⟩,
      ⟨some 7, none, .fadr 1, [.t 6]⟩,
      ⟨some 8, none, .load false 1, [.t 7]⟩,
      ⟨some 2, none, .mv, [.t 8]⟩])
    .ret))) []

/-- (*tripwire/dict.Dict).Write -/
def c25 : CFn := CFn.mk 3 [.t 6 false]
    (.seq (.reg [⟨some 4, none, .box, [.t 1]⟩,
      ⟨some 6, none, .mv, [.c (.int .i64 0)]⟩])
    (.seq (.reg [⟨some 12, none, .mv, [.t 0]⟩,
      ⟨some 13, none, .load true 2, [.t 4]⟩,
      ⟨some 14, none, .call 59 false, [.t 12, .t 13]⟩,
      ⟨some 11, none, .mv, [.t 14]⟩,
      ⟨some 15, none, .ext 0, [.t 11]⟩,
      ⟨some 16, none, .ext 1, [.t 11]⟩,
      ⟨some 7, none, .alloc [(.int .i64 0), (.int .i64 0), (.int .i64 0), (.int .i64 0), (.lst none true 1 [])], []⟩,
      ⟨none, none, .store 5, [.t 7, .t 15]⟩,
      ⟨some 8, none, .mv, [.t 16]⟩])
    (.seq (.seq (.reg [⟨some 17, none, .mv, [.t 8]⟩,
      ⟨some 18, none, .un .not, [.t 17]⟩])
    (.cond (.t 18) (.seq (.reg [⟨some 19, none, .mv, [.t 0]⟩,
      ⟨some 20, none, .load true 2, [.t 4]⟩,
      ⟨some 21, none, .call 71 false, [.t 19, .t 20]⟩,
      ⟨some 6, none, .mv, [.t 21]⟩])
    .ret) .skip))
    (.seq (.seq (.reg [⟨some 22, none, .fadr 0, [.t 7]⟩,
      ⟨some 23, none, .fadr 1, [.t 22]⟩,
      ⟨some 24, none, .load false 1, [.t 23]⟩,
      ⟨some 25, none, .callh 72, [.t 24]⟩,
      ⟨some 9, none, .mv, [.t 25]⟩])
    (.seq (.reg [⟨some 26, none, .mv, [.t 9]⟩,
      ⟨some 27, none, .bin .neq, [.t 26, .c (.int .i64 0)]⟩])
    (.cond (.t 27) (.seq (.reg [⟨some 28, none, .mv, [.t 9]⟩,
      ⟨some 6, none, .mv, [.t 28]⟩])
    .ret) .skip)))
    (.seq (.seq (.reg [⟨some 29, none, .fadr 0, [.t 7]⟩,
      ⟨some 30, none, .load true 4, [.t 29]⟩,
      ⟨some 31, none, .mv, [.t 2]⟩,
      ⟨some 32, none, .callh 57, [.t 30, .t 31]⟩,
      ⟨some 10, none, .mv, [.t 32]⟩])
    (.seq (.reg [⟨some 33, none, .mv, [.t 10]⟩,
      ⟨some 34, none, .bin .neq, [.t 33, .c (.int .i64 0)]⟩])
    (.cond (.t 34) (.seq (.reg [⟨some 35, none, .mv, [.t 10]⟩,
      ⟨some 6, none, .mv, [.t 35]⟩])
    .ret) .skip)))
    (.seq (.reg [⟨some 36, none, .mv, [.t 0]⟩,
      ⟨some 37, none, .load true 2, [.t 4]⟩,
      ⟨some 38, none, .load true 5, [.t 7]⟩,
      ⟨some 39, none, .mv, [.t 2]⟩,
      ⟨some 40, none, .call 73 false, [.t 36, .t 37, .t 38, .t 39]⟩])
    (.seq (.reg [⟨some 6, none, .mv, [.c (.int .i64 0)]⟩])
    .ret))))))) []

/-- (*tripwire/dict.Dict).Raw -/
def c26 : CFn := CFn.mk 2 [.t 4 false, .t 5 false]
    (.seq (.reg [⟨some 3, none, .box, [.t 1]⟩,
      ⟨some 4, none, .nil false 1 5, []⟩,
      ⟨some 5, none, .mv, [.c (.bool false)]⟩])
    (.seq (.reg [⟨some 9, none, .mv, [.t 0]⟩,
      ⟨some 10, none, .load true 2, [.t 3]⟩,
      ⟨some 11, none, .call 59 false, [.t 9, .t 10]⟩,
      ⟨some 8, none, .mv, [.t 11]⟩,
      ⟨some 12, none, .ext 0, [.t 8]⟩,
      ⟨some 13, none, .ext 1, [.t 8]⟩,
      ⟨some 6, none, .alloc [(.int .i64 0), (.int .i64 0), (.int .i64 0), (.int .i64 0), (.lst none true 1 [])], []⟩,
      ⟨none, none, .store 5, [.t 6, .t 12]⟩,
      ⟨some 7, none, .mv, [.t 13]⟩])
    (.seq (.reg [⟨some 14, none, .fadr 4, [.t 6]⟩,
      ⟨some 15, none, .load false 1, [.t 14]⟩,
      ⟨some 16, none, .callh 62, [.t 15]⟩,
      ⟨some 17, none, .mv, [.t 7]⟩,
      ⟨some 4, none, .mv, [.t 16]⟩,
      ⟨some 5, none, .mv, [.t 17]⟩])
    .ret))) []

/-- tripwire/tripwireref13.Fits -/
def c27 : CFn := CFn.mk 2 [.t 4 false]
    (.seq (.reg [⟨some 2, none, .box, [.t 0]⟩,
      ⟨some 4, none, .mv, [.c (.int .i64 0)]⟩])
    (.seq (.seq (.reg [⟨some 12, none, .load true 4, [.t 2]⟩,
      ⟨some 13, none, .callh 53, [.t 12]⟩,
      ⟨some 14, none, .un .not, [.t 13]⟩])
    (.cond (.t 14) (.seq (.reg [⟨some 4, none, .mv, [.c (.int .i64 134217728)]⟩])
    .ret) .skip))
    (.seq (.reg [⟨some 16, none, .fadr 0, [.t 2]⟩,
      ⟨some 17, none, .load false 1, [.t 16]⟩,
      ⟨some 18, none, .callh 74, [.t 17]⟩,
      ⟨some 15, none, .mv, [.t 18]⟩,
      ⟨some 19, none, .ext 0, [.t 15]⟩,
      ⟨some 20, none, .ext 1, [.t 15]⟩,
      ⟨some 21, none, .ext 2, [.t 15]⟩,
      ⟨some 5, none, .mv, [.t 19]⟩,
      ⟨some 6, none, .mv, [.t 20]⟩,
      ⟨some 7, none, .mv, [.t 21]⟩])
    (.seq (.reg [⟨some 22, none, .mv, [.t 5]⟩,
      ⟨some 23, none, .mv, [.t 5]⟩,
      ⟨some 8, none, .mv, [.t 22]⟩,
      ⟨some 9, none, .mv, [.t 23]⟩])
    (.seq (.seq (.reg [⟨some 24, none, .fadr 0, [.t 2]⟩,
      ⟨some 25, none, .load false 1, [.t 24]⟩,
      ⟨some 26, none, .bin .eql, [.t 25, .c (.int .i64 8)]⟩])
    (.cond (.t 26) (.seq (.reg [⟨some 27, none, .fadr 2, [.t 2]⟩,
      ⟨some 28, none, .load false 1, [.t 27]⟩,
      ⟨some 8, none, .mv, [.t 28]⟩])
    (.reg [⟨some 29, none, .fadr 3, [.t 2]⟩,
      ⟨some 30, none, .load false 1, [.t 29]⟩,
      ⟨some 9, none, .mv, [.t 30]⟩])) .skip))
    (.seq (.seq (.reg [⟨some 31, none, .mv, [.t 1]⟩,
      ⟨some 32, none, .len, [.t 31]⟩,
      ⟨some 33, none, .mv, [.t 8]⟩,
      ⟨some 34, none, .bin .lss, [.t 32, .t 33]⟩])
    (.cond (.t 34) (.seq (.reg [⟨some 4, none, .mv, [.c (.int .i64 101122067)]⟩])
    .ret) .skip))
    (.seq (.seq (.reg [⟨some 35, none, .mv, [.t 1]⟩,
      ⟨some 36, none, .len, [.t 35]⟩,
      ⟨some 37, none, .mv, [.t 9]⟩,
      ⟨some 38, none, .bin .gtr, [.t 36, .t 37]⟩])
    (.cond (.t 38) (.seq (.reg [⟨some 4, none, .mv, [.c (.int .i64 101122066)]⟩])
    .ret) .skip))
    (.seq (.seq (.reg [⟨some 39, none, .fadr 0, [.t 2]⟩,
      ⟨some 40, none, .load false 1, [.t 39]⟩,
      ⟨some 41, none, .bin .eql, [.t 40, .c (.int .i64 8)]⟩])
    (.cond (.t 41) (.seq (.reg [⟨some 4, none, .mv, [.c (.int .i64 0)]⟩])
    .ret) .skip))
    (.seq (.reg [⟨some 43, none, .fadr 0, [.t 2]⟩,
      ⟨some 44, none, .load false 1, [.t 43]⟩,
      ⟨some 45, none, .mv, [.t 1]⟩,
      ⟨some 46, none, .callh 75, [.t 44, .t 45]⟩,
      ⟨some 42, none, .mv, [.t 46]⟩,
      ⟨some 47, none, .ext 0, [.t 42]⟩,
      ⟨some 48, none, .ext 1, [.t 42]⟩,
      ⟨some 10, none, .mv, [.t 47]⟩,
      ⟨some 11, none, .mv, [.t 48]⟩])
    (.seq (.seq (.reg [⟨some 49, none, .mv, [.t 11]⟩,
      ⟨some 50, none, .bin .neq, [.t 49, .c (.int .i64 0)]⟩])
    (.cond (.t 50) (.seq (.reg [⟨some 4, none, .mv, [.c (.int .i64 101253168)]⟩])
    .ret) .skip))
    (.seq (.seq (.reg [⟨some 51, none, .mv, [.t 10]⟩,
      ⟨some 52, none, .fadr 3, [.t 2]⟩,
      ⟨some 53, none, .load false 1, [.t 52]⟩,
      ⟨some 54, none, .bin .gtr, [.t 51, .t 53]⟩])
    (.cond (.t 54) (.seq (.reg [⟨some 4, none, .mv, [.c (.int .i64 101253169)]⟩])
    .ret) .skip))
    (.seq (.seq (.reg [⟨some 55, none, .mv, [.t 10]⟩,
      ⟨some 56, none, .fadr 2, [.t 2]⟩,
      ⟨some 57, none, .load false 1, [.t 56]⟩,
      ⟨some 58, none, .bin .lss, [.t 55, .t 57]⟩])
    (.cond (.t 58) (.seq (.reg [⟨some 4, none, .mv, [.c (.int .i64 101253170)]⟩])
    .ret) .skip))
    (.seq (.reg [⟨some 4, none, .mv, [.c (.int .i64 0)]⟩])
    .ret))))))))))))) []

/-- tripwire/tripwirelaw14.live -/
def c28 : CFn := CFn.mk 0 [.t 0 false]
    (.seq (.reg [⟨some 0, none, .mv, [.c (.bool false)]⟩])
    (.seq (.reg [⟨some 6, none, .call 11 false, []⟩,
      ⟨some 1, none, .mv, [.t 6]⟩])
    (.seq (.reg [⟨some 7, none, .build [(.int .i64 0), (.int .i64 0)] [(0, 1), (1, 1)], [.c (.int .i64 8192), .c (.int .i64 1)]⟩,
      ⟨some 2, none, .alloc [(.int .i64 0), (.int .i64 0)], []⟩,
      ⟨none, none, .store 2, [.t 2, .t 7]⟩])
    (.seq (.reg [⟨some 8, none, .mv, [.t 1]⟩,
      ⟨some 9, none, .load true 2, [.t 2]⟩,
      ⟨some 10, none, .build [(.int .i64 0), (.int .i64 0), (.int .i64 0), (.int .i64 0)] [(0, 1), (1, 1), (3, 1)], [.c (.int .i64 2), .c (.int .i64 3), .c (.int .i64 9)]⟩,
      ⟨some 11, none, .bsl false 1 5, [.c (.int .u8 5)]⟩,
      ⟨some 12, none, .call 13 false, [.t 8, .t 9, .t 10, .t 11]⟩,
      ⟨some 3, none, .mv, [.t 12]⟩])
    (.seq (.reg [⟨some 14, none, .mv, [.t 1]⟩,
      ⟨some 15, none, .load true 2, [.t 2]⟩,
      ⟨some 16, none, .call 29 false, [.t 14, .t 15]⟩,
      ⟨some 13, none, .mv, [.t 16]⟩,
      ⟨some 17, none, .ext 0, [.t 13]⟩,
      ⟨some 18, none, .ext 1, [.t 13]⟩,
      ⟨some 4, none, .mv, [.t 17]⟩,
      ⟨some 5, none, .mv, [.t 18]⟩])
    (.seq (.reg [⟨some 19, none, .mv, [.t 3]⟩,
      ⟨some 20, none, .bin .eql, [.t 19, .c (.int .i64 0)]⟩,
      ⟨some 21, none, .mv, [.t 20]⟩,
      ⟨some 22, (some (21, true)), .mv, [.t 5]⟩,
      ⟨some 23, (some (21, true)), .bin .eql, [.t 22, .c (.int .i64 0)]⟩,
      ⟨some 24, none, .pick, [.t 21, .t 23, .c (.bool false)]⟩,
      ⟨some 25, none, .mv, [.t 24]⟩,
      ⟨some 26, (some (25, true)), .mv, [.t 4]⟩,
      ⟨some 27, (some (25, true)), .b2s, [.t 26]⟩,
      ⟨some 28, (some (25, true)), .bin .eql, [.t 27, .c (.str ⟨#[5]⟩)]⟩,
      ⟨some 29, none, .pick, [.t 25, .t 28, .c (.bool false)]⟩,
      ⟨some 30, none, .mv, [.t 29]⟩,
      ⟨some 31, (some (30, true)), .mv, [.t 1]⟩,
      ⟨some 32, (some (30, true)), .load true 2, [.t 2]⟩,
      ⟨some 33, (some (30, true)), .bsl false 1 5, [.c (.int .u8 10)]⟩,
      ⟨some 34, (some (30, true)), .call 25 false, [.t 31, .t 32, .t 33]⟩,
      ⟨some 35, (some (30, true)), .bin .eql, [.t 34, .c (.int .i64 101253169)]⟩,
      ⟨some 36, none, .pick, [.t 30, .t 35, .c (.bool false)]⟩,
      ⟨some 37, none, .mv, [.t 36]⟩,
      ⟨some 38, (some (37, true)), .mv, [.t 1]⟩,
      ⟨some 39, (some (37, true)), .build [(.int .i64 0), (.int .i64 0)] [(0, 1), (1, 1)], [.c (.int .i64 8192), .c (.int .i64 2)]⟩,
      ⟨some 40, (some (37, true)), .call 25 false, [.t 38, .t 39, .c (.lst none true 1 [])]⟩,
      ⟨some 41, (some (37, true)), .bin .eql, [.t 40, .c (.int .i64 101253137)]⟩,
      ⟨some 42, none, .pick, [.t 37, .t 41, .c (.bool false)]⟩,
      ⟨some 43, none, .mv, [.t 42]⟩,
      ⟨some 44, (some (43, true)), .mv, [.t 1]⟩,
      ⟨some 45, (some (43, true)), .build [(.int .i64 0), (.int .i64 0)] [(0, 1)], [.c (.int .i64 8193)]⟩,
      ⟨some 46, (some (43, true)), .call 25 false, [.t 44, .t 45, .c (.lst none true 1 [])]⟩,
      ⟨some 47, (some (43, true)), .bin .eql, [.t 46, .c (.int .i64 100794368)]⟩,
      ⟨some 48, none, .pick, [.t 43, .t 47, .c (.bool false)]⟩,
      ⟨some 0, none, .mv, [.t 48]⟩])
    .ret)))))) []

/-- (*tripwire/dict.Dict).Read -/
def c29 : CFn := CFn.mk 2 [.t 4 false, .t 5 false]
    (.seq (.reg [⟨some 3, none, .box, [.t 1]⟩,
      ⟨some 4, none, .nil false 1 5, []⟩,
      ⟨some 5, none, .mv, [.c (.int .i64 0)]⟩])
    (.seq (.reg [⟨some 10, none, .mv, [.t 0]⟩,
      ⟨some 11, none, .load true 2, [.t 3]⟩,
      ⟨some 12, none, .call 59 false, [.t 10, .t 11]⟩,
      ⟨some 9, none, .mv, [.t 12]⟩,
      ⟨some 13, none, .ext 0, [.t 9]⟩,
      ⟨some 14, none, .ext 1, [.t 9]⟩,
      ⟨some 6, none, .alloc [(.int .i64 0), (.int .i64 0), (.int .i64 0), (.int .i64 0), (.lst none true 1 [])], []⟩,
      ⟨none, none, .store 5, [.t 6, .t 13]⟩,
      ⟨some 7, none, .mv, [.t 14]⟩])
    (.seq (.seq (.reg [⟨some 15, none, .mv, [.t 7]⟩,
      ⟨some 16, none, .un .not, [.t 15]⟩])
    (.cond (.t 16) (.seq (.reg [⟨some 17, none, .mv, [.t 0]⟩,
      ⟨some 18, none, .load true 2, [.t 3]⟩,
      ⟨some 19, none, .call 71 false, [.t 17, .t 18]⟩,
      ⟨some 4, none, .nil false 1 5, []⟩,
      ⟨some 5, none, .mv, [.t 19]⟩])
    .ret) .skip))
    (.seq (.seq (.reg [⟨some 20, none, .fadr 0, [.t 6]⟩,
      ⟨some 21, none, .fadr 1, [.t 20]⟩,
      ⟨some 22, none, .load false 1, [.t 21]⟩,
      ⟨some 23, none, .callh 76, [.t 22]⟩,
      ⟨some 8, none, .mv, [.t 23]⟩])
    (.seq (.reg [⟨some 24, none, .mv, [.t 8]⟩,
      ⟨some 25, none, .bin .neq, [.t 24, .c (.int .i64 0)]⟩])
    (.cond (.t 25) (.seq (.reg [⟨some 26, none, .mv, [.t 8]⟩,
      ⟨some 4, none, .nil false 1 5, []⟩,
      ⟨some 5, none, .mv, [.t 26]⟩])
    .ret) .skip)))
    (.seq (.reg [⟨some 27, none, .fadr 4, [.t 6]⟩,
      ⟨some 28, none, .load false 1, [.t 27]⟩,
      ⟨some 29, none, .callh 62, [.t 28]⟩,
      ⟨some 4, none, .mv, [.t 29]⟩,
      ⟨some 5, none, .mv, [.c (.int .i64 0)]⟩])
    .ret))))) []

/-- tripwire/tripwireref14.Read -/
def c30 : CFn := CFn.mk 2 [.t 4 false, .t 5 false]
    (.seq (.reg [⟨some 2, none, .box, [.t 0]⟩,
      ⟨some 3, none, .box, [.t 1]⟩,
      ⟨some 4, none, .mv, [.c (.str ⟨#[]⟩)]⟩,
      ⟨some 5, none, .mv, [.c (.int .i64 0)]⟩])
    (.seq (.reg [⟨some 8, none, .load true 2, [.t 2]⟩,
      ⟨some 9, none, .load true 2, [.t 3]⟩,
      ⟨some 10, none, .callh 33, [.t 8, .t 9]⟩,
      ⟨some 6, none, .mv, [.t 10]⟩])
    (.seq (.seq (.reg [⟨some 11, none, .mv, [.t 6]⟩,
      ⟨some 12, none, .bin .lss, [.t 11, .c (.int .i64 0)]⟩])
    (.cond (.t 12) (.seq (.reg [⟨some 13, none, .load true 2, [.t 2]⟩,
      ⟨some 14, none, .load true 2, [.t 3]⟩,
      ⟨some 15, none, .callh 77, [.t 13, .t 14]⟩,
      ⟨some 4, none, .mv, [.c (.str ⟨#[]⟩)]⟩,
      ⟨some 5, none, .mv, [.t 15]⟩])
    .ret) .skip))
    (.seq (.reg [⟨some 16, none, .fadr 0, [.t 2]⟩,
      ⟨some 17, none, .load false 1, [.t 16]⟩,
      ⟨some 18, none, .mv, [.t 6]⟩,
      ⟨some 19, none, .ladr 7, [.t 17, .t 18]⟩,
      ⟨some 20, none, .fadr 2, [.t 19]⟩,
      ⟨some 21, none, .fadr 1, [.t 20]⟩,
      ⟨some 22, none, .load false 1, [.t 21]⟩,
      ⟨some 23, none, .callh 78, [.t 22]⟩,
      ⟨some 7, none, .mv, [.t 23]⟩])
    (.seq (.seq (.reg [⟨some 24, none, .mv, [.t 7]⟩,
      ⟨some 25, none, .bin .neq, [.t 24, .c (.int .i64 0)]⟩])
    (.cond (.t 25) (.seq (.reg [⟨some 26, none, .mv, [.t 7]⟩,
      ⟨some 4, none, .mv, [.c (.str ⟨#[]⟩)]⟩,
      ⟨some 5, none, .mv, [.t 26]⟩])
    .ret) .skip))
    (.seq (.reg [⟨some 27, none, .fadr 0, [.t 2]⟩,
      ⟨some 28, none, .load false 1, [.t 27]⟩,
      ⟨some 29, none, .mv, [.t 6]⟩,
      ⟨some 30, none, .ladr 7, [.t 28, .t 29]⟩,
      ⟨some 31, none, .fadr 6, [.t 30]⟩,
      ⟨some 32, none, .load false 1, [.t 31]⟩,
      ⟨some 4, none, .mv, [.t 32]⟩,
      ⟨some 5, none, .mv, [.c (.int .i64 0)]⟩])
    .ret)))))) []

/-- (*tripwire/dict.Dict).Num -/
def c31 : CFn := CFn.mk 2 [.t 4 false, .t 5 false]
    (.seq (.reg [⟨some 3, none, .box, [.t 1]⟩,
      ⟨some 4, none, .mv, [.c (.int .i64 0)]⟩,
      ⟨some 5, none, .mv, [.c (.bool false)]⟩])
    (.seq (.reg [⟨some 9, none, .mv, [.t 0]⟩,
      ⟨some 10, none, .load true 2, [.t 3]⟩,
      ⟨some 11, none, .call 59 false, [.t 9, .t 10]⟩,
      ⟨some 8, none, .mv, [.t 11]⟩,
      ⟨some 12, none, .ext 0, [.t 8]⟩,
      ⟨some 13, none, .ext 1, [.t 8]⟩,
      ⟨some 6, none, .alloc [(.int .i64 0), (.int .i64 0), (.int .i64 0), (.int .i64 0), (.lst none true 1 [])], []⟩,
      ⟨none, none, .store 5, [.t 6, .t 12]⟩,
      ⟨some 7, none, .mv, [.t 13]⟩])
    (.seq (.seq (.reg [⟨some 14, none, .mv, [.t 7]⟩,
      ⟨some 15, none, .un .not, [.t 14]⟩])
    (.cond (.t 15) (.seq (.reg [⟨some 4, none, .mv, [.c (.int .i64 0)]⟩,
      ⟨some 5, none, .mv, [.c (.bool false)]⟩])
    .ret) .skip))
    (.seq (.reg [⟨some 16, none, .fadr 0, [.t 6]⟩,
      ⟨some 17, none, .load true 4, [.t 16]⟩,
      ⟨some 18, none, .fadr 4, [.t 6]⟩,
      ⟨some 19, none, .load false 1, [.t 18]⟩,
      ⟨some 20, none, .callh 79, [.t 17, .t 19]⟩,
      ⟨some 21, none, .ext 0, [.t 20]⟩,
      ⟨some 22, none, .ext 1, [.t 20]⟩,
      ⟨some 4, none, .mv, [.t 21]⟩,
      ⟨some 5, none, .mv, [.t 22]⟩])
    .ret)))) []

/-- tripwire/tripwireref14.Num -/
def c32 : CFn := CFn.mk 2 [.t 4 false, .t 5 false]
    (.seq (.reg [⟨some 2, none, .box, [.t 0]⟩,
      ⟨some 3, none, .box, [.t 1]⟩,
      ⟨some 4, none, .mv, [.c (.int .i64 0)]⟩,
      ⟨some 5, none, .mv, [.c (.bool false)]⟩])
    (.seq (.reg [⟨some 7, none, .load true 2, [.t 2]⟩,
      ⟨some 8, none, .load true 2, [.t 3]⟩,
      ⟨some 9, none, .callh 33, [.t 7, .t 8]⟩,
      ⟨some 6, none, .mv, [.t 9]⟩])
    (.seq (.seq (.reg [⟨some 10, none, .mv, [.t 6]⟩,
      ⟨some 11, none, .bin .lss, [.t 10, .c (.int .i64 0)]⟩])
    (.cond (.t 11) (.seq (.reg [⟨some 4, none, .mv, [.c (.int .i64 0)]⟩,
      ⟨some 5, none, .mv, [.c (.bool false)]⟩])
    .ret) .skip))
    (.seq (.draw 1000000 [0, 1, 0, 7, 15, 31, 0, 64, 0, 448, 960, 1984, 4032, 8191, 16383, 16383, 65535, 131071] [⟨some 12, none, .fadr 0, [.t 2]⟩,
      ⟨some 13, none, .load false 1, [.t 12]⟩,
      ⟨some 14, none, .mv, [.t 6]⟩,
      ⟨some 15, none, .ladr 7, [.t 13, .t 14]⟩,
      ⟨some 16, none, .fadr 2, [.t 15]⟩,
      ⟨some 17, none, .load true 4, [.t 16]⟩,
      ⟨some 18, none, .fadr 0, [.t 2]⟩,
      ⟨some 19, none, .load false 1, [.t 18]⟩,
      ⟨some 20, none, .mv, [.t 6]⟩,
      ⟨some 21, none, .ladr 7, [.t 19, .t 20]⟩,
      ⟨some 22, none, .fadr 6, [.t 21]⟩,
      ⟨some 23, none, .load false 1, [.t 22]⟩,
      ⟨some 24, none, .s2b false 5, [.t 23]⟩,
      ⟨some 25, none, .callh 80, [.t 17, .t 24]⟩,
      ⟨some 26, none, .ext 0, [.t 25]⟩,
      ⟨some 27, none, .ext 1, [.t 25]⟩,
      ⟨some 4, none, .mv, [.t 26]⟩,
      ⟨some 5, none, .mv, [.t 27]⟩])
    .ret)))) []

/-- tripwire/tripwireref14.At -/
def c33 : CFn := CFn.mk 2 [.t 4 false]
    (.seq (.reg [⟨some 2, none, .box, [.t 0]⟩,
      ⟨some 3, none, .box, [.t 1]⟩,
      ⟨some 4, none, .mv, [.c (.int .i64 0)]⟩])
    (.seq (.seq (.reg [⟨some 5, none, .mv, [.c (.int .i64 0)]⟩])
    (.block 0 (.loop [2, 3, 5] [2, 3] [] [] (.seq (.seq (.reg [⟨some 6, none, .mv, [.t 5]⟩,
      ⟨some 7, none, .fadr 0, [.t 2]⟩,
      ⟨some 8, none, .load false 1, [.t 7]⟩,
      ⟨some 9, none, .len, [.t 8]⟩,
      ⟨some 10, none, .bin .lss, [.t 6, .t 9]⟩])
    (.cond (.t 10) .skip (.exit 0)))
    (.seq (.block 1 (.seq (.draw 7 [0, 1, 0, 7, 15, 31, 0, 127] [⟨some 13, none, .fadr 0, [.t 2]⟩,
      ⟨some 14, none, .load false 1, [.t 13]⟩,
      ⟨some 15, none, .mv, [.t 5]⟩,
      ⟨some 16, none, .ladr 7, [.t 14, .t 15]⟩,
      ⟨some 17, none, .fadr 0, [.t 16]⟩,
      ⟨some 18, none, .load true 2, [.t 17]⟩,
      ⟨some 19, none, .load true 2, [.t 3]⟩,
      ⟨some 20, none, .eq [(0, 0), (1, 0)] false, [.t 18, .t 19]⟩])
    (.cond (.t 20) (.seq (.reg [⟨some 21, none, .mv, [.t 5]⟩,
      ⟨some 4, none, .mv, [.t 21]⟩])
    .ret) .skip)))
    (.reg [⟨some 11, none, .mv, [.t 5]⟩,
      ⟨some 12, none, .bin .add, [.t 11, .c (.int .i64 1)]⟩,
      ⟨some 5, none, .mv, [.t 12]⟩]))))))
    (.seq (.reg [⟨some 4, none, .mv, [.c (.int .i64 (-1))]⟩])
    .ret))) []

/-- tripwire/tripwireref14.Sorted -/
def c34 : CFn := CFn.mk 1 [.t 2 false]
    (.seq (.reg [⟨some 1, none, .box, [.t 0]⟩,
      ⟨some 2, none, .nil false 7 39, []⟩])
    (.seq (.reg [⟨some 7, none, .bsl false 7 39, []⟩,
      ⟨some 3, none, .mv, [.t 7]⟩])
    (.seq (.seq (.reg [⟨some 4, none, .mv, [.c (.int .i64 0)]⟩])
    (.block 0 (.loop [1, 3, 4] [1] [1000000] [] (.seq (.seq (.reg [⟨some 8, none, .mv, [.t 4]⟩,
      ⟨some 9, none, .fadr 0, [.t 1]⟩,
      ⟨some 10, none, .load false 1, [.t 9]⟩,
      ⟨some 11, none, .len, [.t 10]⟩,
      ⟨some 12, none, .bin .lss, [.t 8, .t 11]⟩])
    (.cond (.t 12) .skip (.exit 0)))
    (.seq (.block 1 (.seq (.reg [⟨some 5, none, .mv, [.c (.int .i64 0)]⟩])
    (.seq (.block 2 (.loop [1, 3, 4, 5] [1] [1000000] [] (.seq (.seq (.draw 16 [0, 0, 2, 7, 15, 31, 31, 127, 255, 511, 31, 1055, 31, 7199, 15391, 31775, 65535, 131071] [⟨some 15, none, .mv, [.t 5]⟩,
      ⟨some 16, none, .mv, [.t 3]⟩,
      ⟨some 17, none, .len, [.t 16]⟩,
      ⟨some 18, none, .bin .lss, [.t 15, .t 17]⟩,
      ⟨some 19, none, .mv, [.t 18]⟩,
      ⟨some 20, (some (19, true)), .mv, [.t 3]⟩,
      ⟨some 21, (some (19, true)), .mv, [.t 5]⟩,
      ⟨some 22, (some (19, true)), .ladr 7, [.t 20, .t 21]⟩,
      ⟨some 23, (some (19, true)), .fadr 0, [.t 22]⟩,
      ⟨some 24, (some (19, true)), .load true 2, [.t 23]⟩,
      ⟨some 25, (some (19, true)), .fadr 0, [.t 1]⟩,
      ⟨some 26, (some (19, true)), .load false 1, [.t 25]⟩,
      ⟨some 27, (some (19, true)), .mv, [.t 4]⟩,
      ⟨some 28, (some (19, true)), .ladr 7, [.t 26, .t 27]⟩,
      ⟨some 29, (some (19, true)), .fadr 0, [.t 28]⟩,
      ⟨some 30, (some (19, true)), .load true 2, [.t 29]⟩,
      ⟨some 31, (some (19, true)), .callh 81, [.t 24, .t 30]⟩,
      ⟨some 32, none, .pick, [.t 19, .t 31, .c (.bool false)]⟩])
    (.cond (.t 32) .skip (.exit 2)))
    (.block 3 (.reg [⟨some 33, none, .mv, [.t 5]⟩,
      ⟨some 34, none, .bin .add, [.t 33, .c (.int .i64 1)]⟩,
      ⟨some 5, none, .mv, [.t 34]⟩])))))
    (.seq (.reg [⟨some 35, none, .bsl true 7 39, []⟩,
      ⟨some 36, none, .mv, [.t 3]⟩,
      ⟨some 37, none, .mv, [.t 5]⟩,
      ⟨some 38, none, .slcl 7 true false, [.t 36, .t 37]⟩,
      ⟨some 39, none, .app false 7 64 39, [.t 35, .t 38]⟩,
      ⟨some 6, none, .mv, [.t 39]⟩])
    (.draw 1000000 [0, 0, 0, 6, 15, 0, 32, 0, 224, 480, 992, 2047, 0, 8191, 16383] [⟨some 40, none, .bsl true 7 39, []⟩,
      ⟨some 41, none, .mv, [.t 3]⟩,
      ⟨some 42, none, .mv, [.t 5]⟩,
      ⟨some 43, none, .slcl 7 false true, [.t 41, .t 42]⟩,
      ⟨some 44, none, .app false 7 64 39, [.t 40, .t 43]⟩,
      ⟨some 45, none, .fadr 0, [.t 1]⟩,
      ⟨some 46, none, .load false 1, [.t 45]⟩,
      ⟨some 47, none, .mv, [.t 4]⟩,
      ⟨some 48, none, .ladr 7, [.t 46, .t 47]⟩,
      ⟨some 49, none, .load true 7, [.t 48]⟩,
      ⟨some 50, none, .bsl false 7 39, [.t 49]⟩,
      ⟨some 51, none, .app false 7 64 39, [.t 44, .t 50]⟩,
      ⟨some 52, none, .mv, [.t 6]⟩,
      ⟨some 53, none, .app false 7 64 39, [.t 51, .t 52]⟩,
      ⟨some 3, none, .mv, [.t 53]⟩])))))
    (.reg [⟨some 13, none, .mv, [.t 4]⟩,
      ⟨some 14, none, .bin .add, [.t 13, .c (.int .i64 1)]⟩,
      ⟨some 4, none, .mv, [.t 14]⟩]))))))
    (.seq (.reg [⟨some 54, none, .mv, [.t 3]⟩,
      ⟨some 2, none, .mv, [.t 54]⟩])
    .ret)))) []

/-- (*tripwire/dict.Dict).Subs -/
def c35 : CFn := CFn.mk 2 [.t 4 false]
    (.seq (.reg [⟨some 2, none, .box, [.t 0]⟩,
      ⟨some 3, none, .box, [.t 1]⟩,
      ⟨some 4, none, .mv, [.c .nilfn]⟩])
    (.seq (.reg [⟨some 5, none, .mkf 82, [.t 3, .t 2]⟩,
      ⟨some 4, none, .mv, [.t 5]⟩])
    .ret)) []

/-- tripwire/tripwireref14.Name -/
def c44 : CFn := CFn.mk 1 [.t 2 false]
    (.seq (.reg [⟨some 1, none, .box, [.t 0]⟩,
      ⟨some 2, none, .mv, [.c (.bool false)]⟩])
    (.seq (.reg [⟨some 3, none, .fadr 0, [.t 1]⟩,
      ⟨some 4, none, .load false 1, [.t 3]⟩,
      ⟨some 5, none, .bin .geq, [.t 4, .c (.int .i64 1)]⟩,
      ⟨some 6, none, .mv, [.t 5]⟩,
      ⟨some 7, (some (6, true)), .fadr 0, [.t 1]⟩,
      ⟨some 8, (some (6, true)), .load false 1, [.t 7]⟩,
      ⟨some 9, (some (6, true)), .bin .leq, [.t 8, .c (.int .i64 65535)]⟩,
      ⟨some 10, none, .pick, [.t 6, .t 9, .c (.bool false)]⟩,
      ⟨some 11, none, .mv, [.t 10]⟩,
      ⟨some 12, (some (11, true)), .fadr 1, [.t 1]⟩,
      ⟨some 13, (some (11, true)), .load false 1, [.t 12]⟩,
      ⟨some 14, (some (11, true)), .bin .geq, [.t 13, .c (.int .i64 0)]⟩,
      ⟨some 15, none, .pick, [.t 11, .t 14, .c (.bool false)]⟩,
      ⟨some 16, none, .mv, [.t 15]⟩,
      ⟨some 17, (some (16, true)), .fadr 1, [.t 1]⟩,
      ⟨some 18, (some (16, true)), .load false 1, [.t 17]⟩,
      ⟨some 19, (some (16, true)), .bin .leq, [.t 18, .c (.int .i64 255)]⟩,
      ⟨some 20, none, .pick, [.t 16, .t 19, .c (.bool false)]⟩,
      ⟨some 2, none, .mv, [.t 20]⟩])
    .ret)) []

/-- (*tripwire/dict.Dict).Len -/
def c45 : CFn := CFn.mk 1 [.t 2 false]
    (.seq (.reg [⟨some 2, none, .mv, [.c (.int .i64 0)]⟩])
    (.seq (.seq (.reg [⟨some 3, none, .mv, [.t 0]⟩,
      ⟨some 4, none, .pnil false, [.t 3]⟩])
    (.cond (.t 4) (.seq (.reg [⟨some 2, none, .mv, [.c (.int .i64 0)]⟩])
    .ret) .skip))
    (.seq (.reg [⟨some 5, none, .mv, [.t 0]⟩,
      ⟨some 6, none, .nilc, [.t 5]⟩,
      ⟨some 7, none, .fadr 0, [.t 6]⟩,
      ⟨some 8, none, .load false 1, [.t 7]⟩,
      ⟨some 9, none, .call 60 false, [.t 8]⟩,
      ⟨some 2, none, .mv, [.t 9]⟩])
    .ret))) []

/-- (*tripwire/dict.Dict).Keys -/
def c46 : CFn := CFn.mk 1 [.t 2 false]
    (.seq (.reg [⟨some 1, none, .box, [.t 0]⟩,
      ⟨some 2, none, .mv, [.c .nilfn]⟩])
    (.seq (.reg [⟨some 3, none, .mkf 88, [.t 1]⟩,
      ⟨some 2, none, .mv, [.t 3]⟩])
    .ret)) []

/-- (*tripwire/dict.Dict).Put -/
def c47 : CFn := CFn.mk 3 [.t 6 false]
    (.seq (.reg [⟨some 4, none, .box, [.t 1]⟩,
      ⟨some 6, none, .mv, [.c (.int .i64 0)]⟩])
    (.seq (.reg [⟨some 10, none, .mv, [.t 0]⟩,
      ⟨some 11, none, .load true 2, [.t 4]⟩,
      ⟨some 12, none, .call 91 false, [.t 10, .t 11]⟩,
      ⟨some 9, none, .mv, [.t 12]⟩,
      ⟨some 13, none, .ext 0, [.t 9]⟩,
      ⟨some 14, none, .ext 1, [.t 9]⟩,
      ⟨some 7, none, .alloc [(.int .i64 0), (.int .i64 0), (.int .i64 0), (.int .i64 0), (.lst none true 1 [])], []⟩,
      ⟨none, none, .store 5, [.t 7, .t 13]⟩,
      ⟨some 8, none, .mv, [.t 14]⟩])
    (.seq (.seq (.reg [⟨some 15, none, .mv, [.t 8]⟩,
      ⟨some 16, none, .bin .neq, [.t 15, .c (.int .i64 0)]⟩])
    (.cond (.t 16) (.seq (.reg [⟨some 17, none, .mv, [.t 8]⟩,
      ⟨some 6, none, .mv, [.t 17]⟩])
    .ret) .skip))
    (.seq (.seq (.reg [⟨some 18, none, .fadr 0, [.t 7]⟩,
      ⟨some 19, none, .load true 4, [.t 18]⟩,
      ⟨some 20, none, .mv, [.t 2]⟩,
      ⟨some 21, none, .callh 57, [.t 19, .t 20]⟩,
      ⟨some 22, none, .bin .neq, [.t 21, .c (.int .i64 0)]⟩])
    (.cond (.t 22) (.seq (.reg [⟨some 6, none, .mv, [.c (.int .i64 14)]⟩])
    .ret) .skip))
    (.seq (.reg [⟨some 23, none, .mv, [.t 0]⟩,
      ⟨some 24, none, .load true 2, [.t 4]⟩,
      ⟨some 25, none, .load true 5, [.t 7]⟩,
      ⟨some 26, none, .mv, [.t 2]⟩,
      ⟨some 27, none, .call 73 false, [.t 23, .t 24, .t 25, .t 26]⟩])
    (.seq (.reg [⟨some 6, none, .mv, [.c (.int .i64 0)]⟩])
    .ret)))))) []

/-- (*tripwire/dict.Dict).Set -/
def c48 : CFn := CFn.mk 3 [.t 6 false]
    (.seq (.reg [⟨some 4, none, .box, [.t 1]⟩,
      ⟨some 6, none, .mv, [.c (.int .i64 0)]⟩])
    (.seq (.reg [⟨some 11, none, .mv, [.t 0]⟩,
      ⟨some 12, none, .load true 2, [.t 4]⟩,
      ⟨some 13, none, .call 91 false, [.t 11, .t 12]⟩,
      ⟨some 10, none, .mv, [.t 13]⟩,
      ⟨some 14, none, .ext 0, [.t 10]⟩,
      ⟨some 15, none, .ext 1, [.t 10]⟩,
      ⟨some 7, none, .alloc [(.int .i64 0), (.int .i64 0), (.int .i64 0), (.int .i64 0), (.lst none true 1 [])], []⟩,
      ⟨none, none, .store 5, [.t 7, .t 14]⟩,
      ⟨some 8, none, .mv, [.t 15]⟩])
    (.seq (.seq (.reg [⟨some 16, none, .mv, [.t 8]⟩,
      ⟨some 17, none, .bin .neq, [.t 16, .c (.int .i64 0)]⟩])
    (.cond (.t 17) (.seq (.reg [⟨some 18, none, .mv, [.t 8]⟩,
      ⟨some 6, none, .mv, [.t 18]⟩])
    .ret) .skip))
    (.seq (.reg [⟨some 20, none, .fadr 0, [.t 7]⟩,
      ⟨some 21, none, .load true 4, [.t 20]⟩,
      ⟨some 22, none, .mv, [.t 2]⟩,
      ⟨some 23, none, .callh 92, [.t 21, .t 22]⟩,
      ⟨some 19, none, .mv, [.t 23]⟩,
      ⟨some 24, none, .ext 0, [.t 19]⟩,
      ⟨some 25, none, .ext 1, [.t 19]⟩,
      ⟨some 9, none, .mv, [.t 24]⟩,
      ⟨some 8, none, .mv, [.t 25]⟩])
    (.seq (.seq (.reg [⟨some 26, none, .mv, [.t 8]⟩,
      ⟨some 27, none, .bin .neq, [.t 26, .c (.int .i64 0)]⟩])
    (.cond (.t 27) (.seq (.reg [⟨some 28, none, .mv, [.t 8]⟩,
      ⟨some 6, none, .mv, [.t 28]⟩])
    .ret) .skip))
    (.seq (.reg [⟨some 29, none, .mv, [.t 0]⟩,
      ⟨some 30, none, .load true 2, [.t 4]⟩,
      ⟨some 31, none, .load true 5, [.t 7]⟩,
      ⟨some 32, none, .mv, [.t 9]⟩,
      ⟨some 33, none, .call 73 false, [.t 29, .t 30, .t 31, .t 32]⟩])
    (.seq (.reg [⟨some 6, none, .mv, [.c (.int .i64 0)]⟩])
    .ret))))))) []

/-- tripwire/tripwirelaw14.done -/
def c49 : CFn := CFn.mk 3 [.t 6 false, .cell 7 true 2, .t 8 false]
    (.seq (.reg [⟨some 4, none, .box, [.t 1]⟩,
      ⟨some 5, none, .box, [.t 2]⟩,
      ⟨some 6, none, .mv, [.c .nilp]⟩,
      ⟨some 7, none, .alloc [(.lst none true 7 []), (.int .i64 0)], []⟩,
      ⟨some 8, none, .mv, [.c (.bool false)]⟩])
    (.seq (.reg [⟨some 9, none, .mv, [.c (.int .i64 0)]⟩,
      ⟨some 10, none, .mv, [.c (.int .i64 0)]⟩,
      ⟨some 11, none, .mv, [.c (.int .i64 0)]⟩,
      ⟨some 12, none, .mv, [.c (.int .i64 0)]⟩])
    (.seq (.seq (.reg [⟨some 14, none, .fadr 0, [.t 5]⟩,
      ⟨some 15, none, .load false 1, [.t 14]⟩])
    (.block 0 (.seq (.reg [⟨some 17, none, .bin .eql, [.t 15, .c (.int .i64 0)]⟩,
      ⟨some 16, none, .mv, [.t 17]⟩])
    (.cond (.t 16) (.seq (.reg [⟨some 19, none, .load true 2, [.t 4]⟩,
      ⟨some 20, none, .fadr 1, [.t 5]⟩,
      ⟨some 21, none, .load true 2, [.t 20]⟩,
      ⟨some 22, none, .fadr 3, [.t 5]⟩,
      ⟨some 23, none, .load true 4, [.t 22]⟩,
      ⟨some 24, none, .fadr 7, [.t 5]⟩,
      ⟨some 25, none, .load false 1, [.t 24]⟩,
      ⟨some 26, none, .callh 12, [.t 19, .t 21, .t 23, .t 25]⟩,
      ⟨some 18, none, .mv, [.t 26]⟩,
      ⟨some 27, none, .ext 0, [.t 18]⟩,
      ⟨some 28, none, .ext 1, [.t 18]⟩,
      ⟨none, none, .store 2, [.t 4, .t 27]⟩,
      ⟨some 10, none, .mv, [.t 28]⟩])
    (.reg [⟨some 29, none, .mv, [.t 0]⟩,
      ⟨some 30, none, .fadr 1, [.t 5]⟩,
      ⟨some 31, none, .load true 2, [.t 30]⟩,
      ⟨some 32, none, .fadr 3, [.t 5]⟩,
      ⟨some 33, none, .load true 4, [.t 32]⟩,
      ⟨some 34, none, .fadr 7, [.t 5]⟩,
      ⟨some 35, none, .load false 1, [.t 34]⟩,
      ⟨some 36, none, .call 13 false, [.t 29, .t 31, .t 33, .t 35]⟩,
      ⟨some 9, none, .mv, [.t 36]⟩])) (.seq (.reg [⟨some 38, none, .bin .eql, [.t 15, .c (.int .i64 1)]⟩,
      ⟨some 37, none, .mv, [.t 38]⟩])
    (.cond (.t 37) (.seq (.reg [⟨some 40, none, .load true 2, [.t 4]⟩,
      ⟨some 41, none, .fadr 1, [.t 5]⟩,
      ⟨some 42, none, .load true 2, [.t 41]⟩,
      ⟨some 43, none, .fadr 7, [.t 5]⟩,
      ⟨some 44, none, .load false 1, [.t 43]⟩,
      ⟨some 45, none, .callh 93, [.t 40, .t 42, .t 44]⟩,
      ⟨some 39, none, .mv, [.t 45]⟩,
      ⟨some 46, none, .ext 0, [.t 39]⟩,
      ⟨some 47, none, .ext 1, [.t 39]⟩,
      ⟨none, none, .store 2, [.t 4, .t 46]⟩,
      ⟨some 12, none, .mv, [.t 47]⟩])
    (.reg [⟨some 48, none, .mv, [.t 0]⟩,
      ⟨some 49, none, .fadr 1, [.t 5]⟩,
      ⟨some 50, none, .load true 2, [.t 49]⟩,
      ⟨some 51, none, .fadr 7, [.t 5]⟩,
      ⟨some 52, none, .load false 1, [.t 51]⟩,
      ⟨some 53, none, .call 25 false, [.t 48, .t 50, .t 52]⟩,
      ⟨some 11, none, .mv, [.t 53]⟩])) (.seq (.reg [⟨some 55, none, .bin .eql, [.t 15, .c (.int .i64 2)]⟩,
      ⟨some 54, none, .mv, [.t 55]⟩])
    (.cond (.t 54) (.seq (.reg [⟨some 57, none, .load true 2, [.t 4]⟩,
      ⟨some 58, none, .fadr 1, [.t 5]⟩,
      ⟨some 59, none, .load true 2, [.t 58]⟩,
      ⟨some 60, none, .fadr 7, [.t 5]⟩,
      ⟨some 61, none, .load false 1, [.t 60]⟩,
      ⟨some 62, none, .callh 85, [.t 57, .t 59, .t 61]⟩,
      ⟨some 56, none, .mv, [.t 62]⟩,
      ⟨some 63, none, .ext 0, [.t 56]⟩,
      ⟨some 64, none, .ext 1, [.t 56]⟩,
      ⟨none, none, .store 2, [.t 4, .t 63]⟩,
      ⟨some 10, none, .mv, [.t 64]⟩])
    (.reg [⟨some 65, none, .mv, [.t 0]⟩,
      ⟨some 66, none, .fadr 1, [.t 5]⟩,
      ⟨some 67, none, .load true 2, [.t 66]⟩,
      ⟨some 68, none, .fadr 7, [.t 5]⟩,
      ⟨some 69, none, .load false 1, [.t 68]⟩,
      ⟨some 70, none, .call 47 false, [.t 65, .t 67, .t 69]⟩,
      ⟨some 9, none, .mv, [.t 70]⟩])) (.seq (.reg [⟨some 72, none, .bin .eql, [.t 15, .c (.int .i64 3)]⟩,
      ⟨some 71, none, .mv, [.t 72]⟩])
    (.cond (.t 71) (.seq (.reg [⟨some 74, none, .load true 2, [.t 4]⟩,
      ⟨some 75, none, .fadr 1, [.t 5]⟩,
      ⟨some 76, none, .load true 2, [.t 75]⟩,
      ⟨some 77, none, .fadr 8, [.t 5]⟩,
      ⟨some 78, none, .load false 1, [.t 77]⟩,
      ⟨some 79, none, .callh 94, [.t 74, .t 76, .t 78]⟩,
      ⟨some 73, none, .mv, [.t 79]⟩,
      ⟨some 80, none, .ext 0, [.t 73]⟩,
      ⟨some 81, none, .ext 1, [.t 73]⟩,
      ⟨none, none, .store 2, [.t 4, .t 80]⟩,
      ⟨some 10, none, .mv, [.t 81]⟩])
    (.reg [⟨some 82, none, .mv, [.t 0]⟩,
      ⟨some 83, none, .fadr 1, [.t 5]⟩,
      ⟨some 84, none, .load true 2, [.t 83]⟩,
      ⟨some 85, none, .fadr 8, [.t 5]⟩,
      ⟨some 86, none, .load false 1, [.t 85]⟩,
      ⟨some 87, none, .call 48 false, [.t 82, .t 84, .t 86]⟩,
      ⟨some 9, none, .mv, [.t 87]⟩])) (.seq (.reg [⟨some 89, none, .bin .eql, [.t 15, .c (.int .i64 4)]⟩,
      ⟨some 88, none, .mv, [.t 89]⟩])
    (.cond (.t 88) (.seq (.reg [⟨some 90, none, .mv, [.t 0]⟩,
      ⟨some 13, none, .mv, [.t 90]⟩])
    (.seq (.reg [⟨some 91, none, .mv, [.t 0]⟩,
      ⟨some 92, none, .call 23 false, [.t 91]⟩,
      ⟨some 0, none, .mv, [.t 92]⟩])
    (.seq (.reg [⟨some 93, none, .mv, [.t 13]⟩,
      ⟨some 94, none, .fadr 1, [.t 5]⟩,
      ⟨some 95, none, .load true 2, [.t 94]⟩,
      ⟨some 96, none, .fadr 7, [.t 5]⟩,
      ⟨some 97, none, .load false 1, [.t 96]⟩,
      ⟨some 98, none, .call 47 false, [.t 93, .t 95, .t 97]⟩])
    (.reg [⟨some 99, none, .mv, [.t 13]⟩,
      ⟨some 100, none, .fadr 1, [.t 5]⟩,
      ⟨some 101, none, .load true 2, [.t 100]⟩,
      ⟨some 102, none, .fadr 8, [.t 5]⟩,
      ⟨some 103, none, .load false 1, [.t 102]⟩,
      ⟨some 104, none, .call 48 false, [.t 99, .t 101, .t 103]⟩])))) .skip))))))))))))
    (.seq (.draw 11 [0, 0, 0, 0, 12, 28, 60, 60, 252, 508, 61, 1087, 4095] [⟨some 105, none, .mv, [.t 0]⟩,
      ⟨some 106, none, .load true 2, [.t 4]⟩,
      ⟨some 107, none, .mv, [.t 9]⟩,
      ⟨some 108, none, .mv, [.t 10]⟩,
      ⟨some 109, none, .bin .eql, [.t 107, .t 108]⟩,
      ⟨some 110, none, .mv, [.t 109]⟩,
      ⟨some 111, (some (110, true)), .mv, [.t 11]⟩,
      ⟨some 112, (some (110, true)), .mv, [.t 12]⟩,
      ⟨some 113, (some (110, true)), .bin .eql, [.t 111, .t 112]⟩,
      ⟨some 114, none, .pick, [.t 110, .t 113, .c (.bool false)]⟩,
      ⟨some 6, none, .mv, [.t 105]⟩,
      ⟨none, none, .store 2, [.t 7, .t 106]⟩,
      ⟨some 8, none, .mv, [.t 114]⟩])
    .ret)))) []

/-- tripwire/tripwirelaw14.same -/
def c50 : CFn := CFn.mk 2 [.cell 4 false 1]
    (.seq (.reg [⟨some 2, none, .box, [.t 0]⟩,
      ⟨some 3, none, .box, [.t 1]⟩,
      ⟨some 4, none, .alloc [(.bool false)], []⟩])
    (.seq (.reg [⟨some 13, none, .load true 2, [.t 3]⟩,
      ⟨some 14, none, .callh 34, [.t 13]⟩,
      ⟨some 5, none, .alloc [(.lst none true 7 [])], []⟩,
      ⟨none, none, .store 1, [.t 5, .t 14]⟩])
    (.seq (.reg [⟨some 6, none, .alloc [(.int .i64 0)], []⟩,
      ⟨none, none, .store 1, [.t 6, .c (.int .i64 0)]⟩])
    (.seq (.reg [⟨some 15, none, .load false 1, [.t 2]⟩,
      ⟨some 16, none, .call 46 false, [.t 15]⟩,
      ⟨some 7, none, .mv, [.t 16]⟩])
    (.seq (.seq (.reg [⟨some 17, none, .mv, [.t 7]⟩,
      ⟨some 18, none, .fnil false, [.t 17]⟩])
    (.cond (.t 18) (.seq (.reg [⟨none, none, .store 1, [.t 4, .c (.bool false)]⟩])
    .ret) .skip))
    (.seq (.seq (.reg [⟨some 19, none, .mv, [.t 7]⟩])
    (.block 0 (.range (.t 19) 500000000 [2, 4, 5, 6] 50 0)))
    (.seq (.draw 1000000 [0, 0, 2, 7, 15, 31, 63, 31, 255, 511, 1023, 2047, 4095, 2047, 10239, 32767, 65535, 131071] [⟨some 73, none, .load false 1, [.t 6]⟩,
      ⟨some 74, none, .load false 1, [.t 5]⟩,
      ⟨some 75, none, .len, [.t 74]⟩,
      ⟨some 76, none, .bin .eql, [.t 73, .t 75]⟩,
      ⟨some 77, none, .mv, [.t 76]⟩,
      ⟨some 78, (some (77, true)), .load false 1, [.t 2]⟩,
      ⟨some 79, (some (77, true)), .call 45 false, [.t 78]⟩,
      ⟨some 80, (some (77, true)), .load false 1, [.t 6]⟩,
      ⟨some 81, (some (77, true)), .bin .eql, [.t 79, .t 80]⟩,
      ⟨some 82, none, .pick, [.t 77, .t 81, .c (.bool false)]⟩,
      ⟨some 83, none, .mv, [.t 82]⟩,
      ⟨some 84, (some (83, true)), .load false 1, [.t 2]⟩,
      ⟨some 85, (some (83, true)), .call 24 false, [.t 84]⟩,
      ⟨some 86, (some (83, true)), .fadr 1, [.t 3]⟩,
      ⟨some 87, (some (83, true)), .load false 1, [.t 86]⟩,
      ⟨some 88, (some (83, true)), .bin .eql, [.t 85, .t 87]⟩,
      ⟨some 89, none, .pick, [.t 83, .t 88, .c (.bool false)]⟩,
      ⟨none, none, .store 1, [.t 4, .t 89]⟩])
    .ret))))))) [Rd.mk [20] [2, 4, 5, 6] (.reg [⟨some 8, none, .alloc [(.int .i64 0), (.int .i64 0)], []⟩,
      ⟨none, none, .store 2, [.t 8, .t 20]⟩]) (.block 1 (.seq (.seq (.draw 11 [0, 0, 2, 7, 15, 31, 31, 127, 255, 511, 31, 2047, 4095] [⟨some 21, none, .load false 1, [.t 6]⟩,
      ⟨some 22, none, .load false 1, [.t 5]⟩,
      ⟨some 23, none, .len, [.t 22]⟩,
      ⟨some 24, none, .bin .geq, [.t 21, .t 23]⟩,
      ⟨some 25, none, .mv, [.t 24]⟩,
      ⟨some 26, (some (25, false)), .load false 1, [.t 5]⟩,
      ⟨some 27, (some (25, false)), .load false 1, [.t 6]⟩,
      ⟨some 28, (some (25, false)), .ladr 7, [.t 26, .t 27]⟩,
      ⟨some 29, (some (25, false)), .fadr 0, [.t 28]⟩,
      ⟨some 30, (some (25, false)), .load true 2, [.t 29]⟩,
      ⟨some 31, (some (25, false)), .load true 2, [.t 8]⟩,
      ⟨some 32, (some (25, false)), .eq [(0, 0), (1, 0)] true, [.t 30, .t 31]⟩,
      ⟨some 33, none, .pick, [.t 25, .c (.bool true), .t 32]⟩])
    (.cond (.t 33) (.seq (.reg [⟨none, none, .store 1, [.t 4, .c (.bool false)]⟩])
    .ret) .skip))
    (.seq (.reg [⟨some 35, none, .load false 1, [.t 2]⟩,
      ⟨some 36, none, .load true 2, [.t 8]⟩,
      ⟨some 37, none, .call 26 false, [.t 35, .t 36]⟩,
      ⟨some 34, none, .mv, [.t 37]⟩,
      ⟨some 38, none, .ext 0, [.t 34]⟩,
      ⟨some 39, none, .ext 1, [.t 34]⟩,
      ⟨some 9, none, .mv, [.t 38]⟩,
      ⟨some 10, none, .mv, [.t 39]⟩])
    (.seq (.reg [⟨some 41, none, .load false 1, [.t 2]⟩,
      ⟨some 42, none, .load true 2, [.t 8]⟩,
      ⟨some 43, none, .call 95 false, [.t 41, .t 42]⟩,
      ⟨some 40, none, .mv, [.t 43]⟩,
      ⟨some 44, none, .ext 0, [.t 40]⟩,
      ⟨some 45, none, .ext 1, [.t 40]⟩,
      ⟨some 11, none, .alloc [(.int .i64 0), (.int .i64 0), (.int .i64 0), (.int .i64 0)], []⟩,
      ⟨none, none, .store 4, [.t 11, .t 44]⟩,
      ⟨some 12, none, .mv, [.t 45]⟩])
    (.seq (.seq (.draw 23 [0, 1, 3, 7, 15, 31, 63, 127, 255, 127, 127, 1663, 3711, 7807, 16383, 32767, 65535, 131071, 131071, 131071, 917503, 1966079, 4063231, 8388607, 16777215] [⟨some 46, none, .mv, [.t 10]⟩,
      ⟨some 47, none, .un .not, [.t 46]⟩,
      ⟨some 48, none, .mv, [.t 47]⟩,
      ⟨some 49, (some (48, false)), .mv, [.t 12]⟩,
      ⟨some 50, (some (48, false)), .un .not, [.t 49]⟩,
      ⟨some 51, none, .pick, [.t 48, .c (.bool true), .t 50]⟩,
      ⟨some 52, none, .mv, [.t 51]⟩,
      ⟨some 53, (some (52, false)), .mv, [.t 9]⟩,
      ⟨some 54, (some (52, false)), .b2s, [.t 53]⟩,
      ⟨some 55, (some (52, false)), .load false 1, [.t 5]⟩,
      ⟨some 56, (some (52, false)), .load false 1, [.t 6]⟩,
      ⟨some 57, (some (52, false)), .ladr 7, [.t 55, .t 56]⟩,
      ⟨some 58, (some (52, false)), .fadr 6, [.t 57]⟩,
      ⟨some 59, (some (52, false)), .load false 1, [.t 58]⟩,
      ⟨some 60, (some (52, false)), .bin .neq, [.t 54, .t 59]⟩,
      ⟨some 61, none, .pick, [.t 52, .c (.bool true), .t 60]⟩,
      ⟨some 62, none, .mv, [.t 61]⟩,
      ⟨some 63, (some (62, false)), .load true 4, [.t 11]⟩,
      ⟨some 64, (some (62, false)), .load false 1, [.t 5]⟩,
      ⟨some 65, (some (62, false)), .load false 1, [.t 6]⟩,
      ⟨some 66, (some (62, false)), .ladr 7, [.t 64, .t 65]⟩,
      ⟨some 67, (some (62, false)), .fadr 2, [.t 66]⟩,
      ⟨some 68, (some (62, false)), .load true 4, [.t 67]⟩,
      ⟨some 69, (some (62, false)), .eq [(0, 0), (1, 0), (2, 0), (3, 0)] true, [.t 63, .t 68]⟩,
      ⟨some 70, none, .pick, [.t 62, .c (.bool true), .t 69]⟩])
    (.cond (.t 70) (.seq (.reg [⟨none, none, .store 1, [.t 4, .c (.bool false)]⟩])
    .ret) .skip))
    (.reg [⟨some 71, none, .load false 1, [.t 6]⟩,
      ⟨some 72, none, .bin .add, [.t 71, .c (.int .i64 1)]⟩,
      ⟨none, none, .store 1, [.t 6, .t 72]⟩]))))))]

/-- tripwire/shelf.New[int,tripwire/dict.entry] -/
def c52 : CFn := CFn.mk 0 [.t 0 false]
    (.seq (.reg [⟨some 0, none, .mv, [.c .nilp]⟩])
    (.seq (.reg [⟨some 1, none, .build [(.lst none true 6 [])] [], []⟩,
      ⟨some 2, none, .box, [.t 1]⟩,
      ⟨some 0, none, .mv, [.t 2]⟩])
    .ret)) []

/-- tripwire/tripwireref13.May -/
def c53 : CFn := CFn.mk 1 [.t 2 false]
    (.seq (.reg [⟨some 1, none, .box, [.t 0]⟩,
      ⟨some 2, none, .mv, [.c (.bool false)]⟩])
    (.seq (.reg [⟨some 7, none, .fadr 0, [.t 1]⟩,
      ⟨some 8, none, .load false 1, [.t 7]⟩,
      ⟨some 9, none, .callh 74, [.t 8]⟩,
      ⟨some 6, none, .mv, [.t 9]⟩,
      ⟨some 10, none, .ext 0, [.t 6]⟩,
      ⟨some 11, none, .ext 1, [.t 6]⟩,
      ⟨some 12, none, .ext 2, [.t 6]⟩,
      ⟨some 3, none, .mv, [.t 10]⟩,
      ⟨some 4, none, .mv, [.t 11]⟩,
      ⟨some 5, none, .mv, [.t 12]⟩])
    (.seq (.seq (.reg [⟨some 13, none, .fadr 0, [.t 1]⟩,
      ⟨some 14, none, .load false 1, [.t 13]⟩,
      ⟨some 15, none, .bin .eql, [.t 14, .c (.int .i64 8)]⟩])
    (.cond (.t 15) (.seq (.reg [⟨some 3, none, .mv, [.c (.int .i64 1)]⟩])
    (.seq (.reg [⟨some 4, none, .mv, [.c (.int .i64 0)]⟩])
    (.reg [⟨some 5, none, .mv, [.c (.int .i64 64)]⟩]))) .skip))
    (.seq (.reg [⟨some 16, none, .mv, [.t 3]⟩,
      ⟨some 17, none, .bin .gtr, [.t 16, .c (.int .i64 0)]⟩,
      ⟨some 18, none, .mv, [.t 17]⟩,
      ⟨some 19, (some (18, true)), .fadr 1, [.t 1]⟩,
      ⟨some 20, (some (18, true)), .load false 1, [.t 19]⟩,
      ⟨some 21, (some (18, true)), .bin .geq, [.t 20, .c (.int .i64 1)]⟩,
      ⟨some 22, none, .pick, [.t 18, .t 21, .c (.bool false)]⟩,
      ⟨some 23, none, .mv, [.t 22]⟩,
      ⟨some 24, (some (23, true)), .fadr 1, [.t 1]⟩,
      ⟨some 25, (some (23, true)), .load false 1, [.t 24]⟩,
      ⟨some 26, (some (23, true)), .bin .leq, [.t 25, .c (.int .i64 4)]⟩,
      ⟨some 27, none, .pick, [.t 23, .t 26, .c (.bool false)]⟩,
      ⟨some 28, none, .mv, [.t 27]⟩,
      ⟨some 29, (some (28, true)), .mv, [.t 4]⟩,
      ⟨some 30, (some (28, true)), .fadr 2, [.t 1]⟩,
      ⟨some 31, (some (28, true)), .load false 1, [.t 30]⟩,
      ⟨some 32, (some (28, true)), .bin .leq, [.t 29, .t 31]⟩,
      ⟨some 33, none, .pick, [.t 28, .t 32, .c (.bool false)]⟩,
      ⟨some 34, none, .mv, [.t 33]⟩,
      ⟨some 35, (some (34, true)), .fadr 2, [.t 1]⟩,
      ⟨some 36, (some (34, true)), .load false 1, [.t 35]⟩,
      ⟨some 37, (some (34, true)), .fadr 3, [.t 1]⟩,
      ⟨some 38, (some (34, true)), .load false 1, [.t 37]⟩,
      ⟨some 39, (some (34, true)), .bin .leq, [.t 36, .t 38]⟩,
      ⟨some 40, none, .pick, [.t 34, .t 39, .c (.bool false)]⟩,
      ⟨some 41, none, .mv, [.t 40]⟩,
      ⟨some 42, (some (41, true)), .fadr 3, [.t 1]⟩,
      ⟨some 43, (some (41, true)), .load false 1, [.t 42]⟩,
      ⟨some 44, (some (41, true)), .mv, [.t 5]⟩,
      ⟨some 45, (some (41, true)), .bin .leq, [.t 43, .t 44]⟩,
      ⟨some 46, none, .pick, [.t 41, .t 45, .c (.bool false)]⟩,
      ⟨some 2, none, .mv, [.t 46]⟩])
    .ret)))) []

/-- tripwire/tripwireref13.First -/
def c54 : CFn := CFn.mk 1 [.t 2 false]
    (.seq (.reg [⟨some 1, none, .box, [.t 0]⟩,
      ⟨some 2, none, .nil false 1 5, []⟩])
    (.seq (.reg [⟨some 8, none, .bsl true 1 5, []⟩,
      ⟨some 3, none, .mv, [.t 8]⟩])
    (.seq (.seq (.reg [⟨some 9, none, .load true 4, [.t 1]⟩,
      ⟨some 10, none, .callh 53, [.t 9]⟩,
      ⟨some 11, none, .un .not, [.t 10]⟩])
    (.cond (.t 11) (.seq (.reg [⟨some 12, none, .mv, [.t 3]⟩,
      ⟨some 2, none, .mv, [.t 12]⟩])
    .ret) .skip))
    (.seq (.seq (.reg [⟨some 13, none, .fadr 0, [.t 1]⟩,
      ⟨some 14, none, .load false 1, [.t 13]⟩,
      ⟨some 15, none, .bin .eql, [.t 14, .c (.int .i64 8)]⟩])
    (.cond (.t 15) (.seq (.seq (.reg [⟨some 4, none, .mv, [.c (.int .i64 0)]⟩])
    (.block 0 (.loop [1, 3, 4] [1] [8] [] (.seq (.seq (.reg [⟨some 16, none, .mv, [.t 4]⟩,
      ⟨some 17, none, .fadr 2, [.t 1]⟩,
      ⟨some 18, none, .load false 1, [.t 17]⟩,
      ⟨some 19, none, .bin .lss, [.t 16, .t 18]⟩])
    (.cond (.t 19) .skip (.exit 0)))
    (.seq (.block 1 (.reg [⟨some 22, none, .mv, [.t 3]⟩,
      ⟨some 23, none, .bsl false 1 5, [.c (.int .u8 0)]⟩,
      ⟨some 24, none, .app false 1 1 5, [.t 22, .t 23]⟩,
      ⟨some 3, none, .mv, [.t 24]⟩]))
    (.reg [⟨some 20, none, .mv, [.t 4]⟩,
      ⟨some 21, none, .bin .add, [.t 20, .c (.int .i64 1)]⟩,
      ⟨some 4, none, .mv, [.t 21]⟩]))))))
    (.seq (.reg [⟨some 25, none, .mv, [.t 3]⟩,
      ⟨some 2, none, .mv, [.t 25]⟩])
    .ret)) .skip))
    (.seq (.reg [⟨some 5, none, .mv, [.c (.int .i64 0)]⟩])
    (.seq (.seq (.reg [⟨some 26, none, .fadr 2, [.t 1]⟩,
      ⟨some 27, none, .load false 1, [.t 26]⟩,
      ⟨some 28, none, .bin .gtr, [.t 27, .c (.int .i64 0)]⟩])
    (.cond (.t 28) (.reg [⟨some 29, none, .fadr 2, [.t 1]⟩,
      ⟨some 30, none, .load false 1, [.t 29]⟩,
      ⟨some 5, none, .mv, [.t 30]⟩]) .skip))
    (.seq (.seq (.reg [⟨some 31, none, .fadr 3, [.t 1]⟩,
      ⟨some 32, none, .load false 1, [.t 31]⟩,
      ⟨some 33, none, .bin .lss, [.t 32, .c (.int .i64 0)]⟩])
    (.cond (.t 33) (.reg [⟨some 34, none, .fadr 3, [.t 1]⟩,
      ⟨some 35, none, .load false 1, [.t 34]⟩,
      ⟨some 5, none, .mv, [.t 35]⟩]) .skip))
    (.seq (.reg [⟨some 37, none, .fadr 0, [.t 1]⟩,
      ⟨some 38, none, .load false 1, [.t 37]⟩,
      ⟨some 39, none, .mv, [.t 5]⟩,
      ⟨some 40, none, .callh 97, [.t 38, .t 39]⟩,
      ⟨some 36, none, .mv, [.t 40]⟩,
      ⟨some 41, none, .ext 0, [.t 36]⟩,
      ⟨some 42, none, .ext 1, [.t 36]⟩,
      ⟨some 6, none, .mv, [.t 41]⟩,
      ⟨some 7, none, .mv, [.t 42]⟩])
    (.seq (.reg [⟨some 43, none, .mv, [.t 6]⟩,
      ⟨some 2, none, .mv, [.t 43]⟩])
    .ret))))))))) []

/-- tripwire/dict.number -/
def c55 : CFn := CFn.mk 1 [.t 2 false]
    (.seq (.reg [⟨some 1, none, .box, [.t 0]⟩,
      ⟨some 2, none, .mv, [.c (.int .i64 0)]⟩])
    (.seq (.seq (.reg [⟨some 3, none, .fadr 0, [.t 1]⟩,
      ⟨some 4, none, .load false 1, [.t 3]⟩,
      ⟨some 5, none, .bin .lss, [.t 4, .c (.int .i64 1)]⟩,
      ⟨some 6, none, .mv, [.t 5]⟩,
      ⟨some 7, (some (6, false)), .fadr 0, [.t 1]⟩,
      ⟨some 8, (some (6, false)), .load false 1, [.t 7]⟩,
      ⟨some 9, (some (6, false)), .bin .geq, [.t 8, .c (.int .i64 65536)]⟩,
      ⟨some 10, none, .pick, [.t 6, .c (.bool true), .t 9]⟩,
      ⟨some 11, none, .mv, [.t 10]⟩,
      ⟨some 12, (some (11, false)), .fadr 1, [.t 1]⟩,
      ⟨some 13, (some (11, false)), .load false 1, [.t 12]⟩,
      ⟨some 14, (some (11, false)), .bin .lss, [.t 13, .c (.int .i64 0)]⟩,
      ⟨some 15, none, .pick, [.t 11, .c (.bool true), .t 14]⟩,
      ⟨some 16, none, .mv, [.t 15]⟩,
      ⟨some 17, (some (16, false)), .fadr 1, [.t 1]⟩,
      ⟨some 18, (some (16, false)), .load false 1, [.t 17]⟩,
      ⟨some 19, (some (16, false)), .bin .geq, [.t 18, .c (.int .i64 256)]⟩,
      ⟨some 20, none, .pick, [.t 16, .c (.bool true), .t 19]⟩])
    (.cond (.t 20) (.seq (.reg [⟨some 2, none, .mv, [.c (.int .i64 (-1))]⟩])
    .ret) .skip))
    (.seq (.reg [⟨some 21, none, .fadr 0, [.t 1]⟩,
      ⟨some 22, none, .load false 1, [.t 21]⟩,
      ⟨some 23, none, .bin .mul, [.t 22, .c (.int .i64 256)]⟩,
      ⟨some 24, none, .fadr 1, [.t 1]⟩,
      ⟨some 25, none, .load false 1, [.t 24]⟩,
      ⟨some 26, none, .bin .add, [.t 23, .t 25]⟩,
      ⟨some 2, none, .mv, [.t 26]⟩])
    .ret))) []

/-- tripwire/value.May -/
def c56 : CFn := CFn.mk 1 [.t 2 false]
    (.seq (.reg [⟨some 1, none, .box, [.t 0]⟩,
      ⟨some 2, none, .mv, [.c (.bool false)]⟩])
    (.seq (.seq (.reg [⟨some 3, none, .fadr 1, [.t 1]⟩,
      ⟨some 4, none, .load false 1, [.t 3]⟩,
      ⟨some 5, none, .bin .lss, [.t 4, .c (.int .i64 1)]⟩,
      ⟨some 6, none, .mv, [.t 5]⟩,
      ⟨some 7, (some (6, false)), .fadr 1, [.t 1]⟩,
      ⟨some 8, (some (6, false)), .load false 1, [.t 7]⟩,
      ⟨some 9, (some (6, false)), .bin .gtr, [.t 8, .c (.int .i64 4)]⟩,
      ⟨some 10, none, .pick, [.t 6, .c (.bool true), .t 9]⟩,
      ⟨some 11, none, .mv, [.t 10]⟩,
      ⟨some 12, (some (11, false)), .fadr 2, [.t 1]⟩,
      ⟨some 13, (some (11, false)), .load false 1, [.t 12]⟩,
      ⟨some 14, (some (11, false)), .fadr 3, [.t 1]⟩,
      ⟨some 15, (some (11, false)), .load false 1, [.t 14]⟩,
      ⟨some 16, (some (11, false)), .bin .gtr, [.t 13, .t 15]⟩,
      ⟨some 17, none, .pick, [.t 11, .c (.bool true), .t 16]⟩])
    (.cond (.t 17) (.seq (.reg [⟨some 2, none, .mv, [.c (.bool false)]⟩])
    .ret) .skip))
    (.seq (.block 0 (.seq (.reg [⟨some 19, none, .load true 4, [.t 1]⟩,
      ⟨some 20, none, .callh 98, [.t 19]⟩,
      ⟨some 18, none, .mv, [.t 20]⟩])
    (.cond (.t 18) (.seq (.reg [⟨some 21, none, .fadr 0, [.t 1]⟩,
      ⟨some 22, none, .load false 1, [.t 21]⟩,
      ⟨some 23, none, .fadr 2, [.t 1]⟩,
      ⟨some 24, none, .load false 1, [.t 23]⟩,
      ⟨some 25, none, .callh 69, [.t 22, .t 24]⟩,
      ⟨some 26, none, .mv, [.t 25]⟩,
      ⟨some 27, (some (26, true)), .fadr 0, [.t 1]⟩,
      ⟨some 28, (some (26, true)), .load false 1, [.t 27]⟩,
      ⟨some 29, (some (26, true)), .fadr 3, [.t 1]⟩,
      ⟨some 30, (some (26, true)), .load false 1, [.t 29]⟩,
      ⟨some 31, (some (26, true)), .callh 69, [.t 28, .t 30]⟩,
      ⟨some 32, none, .pick, [.t 26, .t 31, .c (.bool false)]⟩,
      ⟨some 2, none, .mv, [.t 32]⟩])
    .ret) (.seq (.reg [⟨some 34, none, .fadr 0, [.t 1]⟩,
      ⟨some 35, none, .load false 1, [.t 34]⟩,
      ⟨some 36, none, .bin .eql, [.t 35, .c (.int .i64 8)]⟩,
      ⟨some 33, none, .mv, [.t 36]⟩])
    (.cond (.t 33) (.seq (.reg [⟨some 37, none, .fadr 2, [.t 1]⟩,
      ⟨some 38, none, .load false 1, [.t 37]⟩,
      ⟨some 39, none, .bin .geq, [.t 38, .c (.int .i64 0)]⟩,
      ⟨some 40, none, .mv, [.t 39]⟩,
      ⟨some 41, (some (40, true)), .fadr 3, [.t 1]⟩,
      ⟨some 42, (some (40, true)), .load false 1, [.t 41]⟩,
      ⟨some 43, (some (40, true)), .bin .leq, [.t 42, .c (.int .i64 64)]⟩,
      ⟨some 44, none, .pick, [.t 40, .t 43, .c (.bool false)]⟩,
      ⟨some 2, none, .mv, [.t 44]⟩])
    .ret) .skip)))))
    (.seq (.reg [⟨some 2, none, .mv, [.c (.bool false)]⟩])
    .ret)))) []

/-- tripwire/value.Fits -/
def c57 : CFn := CFn.mk 2 [.t 4 false]
    (.seq (.reg [⟨some 2, none, .box, [.t 0]⟩,
      ⟨some 4, none, .mv, [.c (.int .i64 0)]⟩])
    (.seq (.seq (.reg [⟨some 9, none, .load true 4, [.t 2]⟩,
      ⟨some 10, none, .callh 56, [.t 9]⟩,
      ⟨some 11, none, .un .not, [.t 10]⟩])
    (.cond (.t 11) (.seq (.reg [⟨some 4, none, .mv, [.c (.int .i64 134217728)]⟩])
    .ret) .skip))
    (.seq (.seq (.reg [⟨some 12, none, .load true 4, [.t 2]⟩,
      ⟨some 13, none, .callh 98, [.t 12]⟩,
      ⟨some 14, none, .un .not, [.t 13]⟩])
    (.cond (.t 14) (.seq (.reg [⟨some 15, none, .mv, [.t 1]⟩,
      ⟨some 16, none, .len, [.t 15]⟩,
      ⟨some 17, none, .fadr 2, [.t 2]⟩,
      ⟨some 18, none, .load false 1, [.t 17]⟩,
      ⟨some 19, none, .fadr 3, [.t 2]⟩,
      ⟨some 20, none, .load false 1, [.t 19]⟩,
      ⟨some 21, none, .callh 99, [.t 16, .t 18, .t 20]⟩,
      ⟨some 4, none, .mv, [.t 21]⟩])
    .ret) .skip))
    (.seq (.reg [⟨some 22, none, .fadr 0, [.t 2]⟩,
      ⟨some 23, none, .load false 1, [.t 22]⟩,
      ⟨some 24, none, .callh 100, [.t 23]⟩,
      ⟨some 5, none, .mv, [.t 24]⟩])
    (.seq (.seq (.reg [⟨some 25, none, .mv, [.t 1]⟩,
      ⟨some 26, none, .len, [.t 25]⟩,
      ⟨some 27, none, .mv, [.t 5]⟩,
      ⟨some 28, none, .mv, [.t 5]⟩,
      ⟨some 29, none, .callh 99, [.t 26, .t 27, .t 28]⟩,
      ⟨some 6, none, .mv, [.t 29]⟩])
    (.seq (.reg [⟨some 30, none, .mv, [.t 6]⟩,
      ⟨some 31, none, .bin .neq, [.t 30, .c (.int .i64 0)]⟩])
    (.cond (.t 31) (.seq (.reg [⟨some 32, none, .mv, [.t 6]⟩,
      ⟨some 4, none, .mv, [.t 32]⟩])
    .ret) .skip)))
    (.seq (.reg [⟨some 34, none, .fadr 0, [.t 2]⟩,
      ⟨some 35, none, .load false 1, [.t 34]⟩,
      ⟨some 36, none, .mv, [.t 1]⟩,
      ⟨some 37, none, .callh 101, [.t 35, .t 36]⟩,
      ⟨some 33, none, .mv, [.t 37]⟩,
      ⟨some 38, none, .ext 0, [.t 33]⟩,
      ⟨some 39, none, .ext 1, [.t 33]⟩,
      ⟨some 7, none, .mv, [.t 38]⟩,
      ⟨some 8, none, .mv, [.t 39]⟩])
    (.seq (.block 0 (.seq (.reg [⟨some 41, none, .mv, [.t 8]⟩,
      ⟨some 42, none, .bin .neq, [.t 41, .c (.int .i64 0)]⟩,
      ⟨some 40, none, .mv, [.t 42]⟩])
    (.cond (.t 40) (.seq (.reg [⟨some 4, none, .mv, [.c (.int .i64 101253168)]⟩])
    .ret) (.seq (.reg [⟨some 44, none, .mv, [.t 7]⟩,
      ⟨some 45, none, .fadr 3, [.t 2]⟩,
      ⟨some 46, none, .load false 1, [.t 45]⟩,
      ⟨some 47, none, .bin .gtr, [.t 44, .t 46]⟩,
      ⟨some 43, none, .mv, [.t 47]⟩])
    (.cond (.t 43) (.seq (.reg [⟨some 4, none, .mv, [.c (.int .i64 101253169)]⟩])
    .ret) (.seq (.reg [⟨some 49, none, .mv, [.t 7]⟩,
      ⟨some 50, none, .fadr 2, [.t 2]⟩,
      ⟨some 51, none, .load false 1, [.t 50]⟩,
      ⟨some 52, none, .bin .lss, [.t 49, .t 51]⟩,
      ⟨some 48, none, .mv, [.t 52]⟩])
    (.cond (.t 48) (.seq (.reg [⟨some 4, none, .mv, [.c (.int .i64 101253170)]⟩])
    .ret) .skip)))))))
    (.seq (.reg [⟨some 4, none, .mv, [.c (.int .i64 0)]⟩])
    .ret)))))))) []

/-- tripwire/value.First -/
def c58 : CFn := CFn.mk 1 [.t 2 false]
    (.seq (.reg [⟨some 1, none, .box, [.t 0]⟩,
      ⟨some 2, none, .nil false 1 5, []⟩])
    (.seq (.block 0 (.seq (.reg [⟨some 6, none, .load true 4, [.t 1]⟩,
      ⟨some 7, none, .callh 56, [.t 6]⟩,
      ⟨some 8, none, .un .not, [.t 7]⟩,
      ⟨some 5, none, .mv, [.t 8]⟩])
    (.cond (.t 5) (.seq (.reg [⟨some 2, none, .nil false 1 5, []⟩])
    .ret) (.seq (.reg [⟨some 10, none, .load true 4, [.t 1]⟩,
      ⟨some 11, none, .callh 98, [.t 10]⟩,
      ⟨some 12, none, .un .not, [.t 11]⟩,
      ⟨some 9, none, .mv, [.t 12]⟩])
    (.cond (.t 9) (.seq (.reg [⟨some 13, none, .fadr 2, [.t 1]⟩,
      ⟨some 14, none, .load false 1, [.t 13]⟩,
      ⟨some 15, none, .mks 1 1 [(.int .u8 0)], [.t 14, .t 14]⟩,
      ⟨some 2, none, .mv, [.t 15]⟩])
    .ret) .skip)))))
    (.seq (.reg [⟨some 17, none, .fadr 0, [.t 1]⟩,
      ⟨some 18, none, .load false 1, [.t 17]⟩,
      ⟨some 19, none, .fadr 2, [.t 1]⟩,
      ⟨some 20, none, .load false 1, [.t 19]⟩,
      ⟨some 21, none, .mx, [.c (.int .i64 0), .t 20]⟩,
      ⟨some 22, none, .fadr 3, [.t 1]⟩,
      ⟨some 23, none, .load false 1, [.t 22]⟩,
      ⟨some 24, none, .mn, [.t 21, .t 23]⟩,
      ⟨some 25, none, .callh 102, [.t 18, .t 24]⟩,
      ⟨some 16, none, .mv, [.t 25]⟩,
      ⟨some 26, none, .ext 0, [.t 16]⟩,
      ⟨some 27, none, .ext 1, [.t 16]⟩,
      ⟨some 3, none, .mv, [.t 26]⟩,
      ⟨some 4, none, .mv, [.t 27]⟩])
    (.seq (.reg [⟨some 28, none, .mv, [.t 3]⟩,
      ⟨some 2, none, .mv, [.t 28]⟩])
    .ret)))) []

/-- (*tripwire/dict.Dict).find -/
def c59 : CFn := CFn.mk 2 [.cell 4 true 5, .t 5 false]
    (.seq (.reg [⟨some 3, none, .box, [.t 1]⟩,
      ⟨some 4, none, .alloc [(.int .i64 0), (.int .i64 0), (.int .i64 0), (.int .i64 0), (.lst none true 1 [])], []⟩,
      ⟨some 5, none, .mv, [.c (.bool false)]⟩])
    (.seq (.seq (.reg [⟨some 6, none, .mv, [.t 0]⟩,
      ⟨some 7, none, .pnil false, [.t 6]⟩])
    (.cond (.t 7) (.seq (.reg [⟨some 8, none, .build [(.int .i64 0), (.int .i64 0), (.int .i64 0), (.int .i64 0), (.lst none true 1 [])] [], []⟩,
      ⟨none, none, .store 5, [.t 4, .t 8]⟩,
      ⟨some 5, none, .mv, [.c (.bool false)]⟩])
    .ret) .skip))
    (.seq (.draw 1000000 [0, 1, 3, 7, 0, 16, 63, 127, 127, 511, 1023] [⟨some 9, none, .mv, [.t 0]⟩,
      ⟨some 10, none, .nilc, [.t 9]⟩,
      ⟨some 11, none, .fadr 0, [.t 10]⟩,
      ⟨some 12, none, .load false 1, [.t 11]⟩,
      ⟨some 13, none, .load true 2, [.t 3]⟩,
      ⟨some 14, none, .callh 55, [.t 13]⟩,
      ⟨some 15, none, .call 103 false, [.t 12, .t 14]⟩,
      ⟨some 16, none, .ext 0, [.t 15]⟩,
      ⟨some 17, none, .ext 1, [.t 15]⟩,
      ⟨none, none, .store 5, [.t 4, .t 16]⟩,
      ⟨some 5, none, .mv, [.t 17]⟩])
    .ret))) []

/-- (*tripwire/shelf.Shelf[int, tripwire/dict.entry]).Len -/
def c60 : CFn := CFn.mk 1 [.t 2 false]
    (.seq (.reg [⟨some 2, none, .mv, [.c (.int .i64 0)]⟩])
    (.seq (.seq (.reg [⟨some 3, none, .mv, [.t 0]⟩,
      ⟨some 4, none, .pnil false, [.t 3]⟩])
    (.cond (.t 4) (.seq (.reg [⟨some 2, none, .mv, [.c (.int .i64 0)]⟩])
    .ret) .skip))
    (.seq (.reg [⟨some 5, none, .mv, [.t 0]⟩,
      ⟨some 6, none, .nilc, [.t 5]⟩,
      ⟨some 7, none, .fadr 0, [.t 6]⟩,
      ⟨some 8, none, .load false 1, [.t 7]⟩,
      ⟨some 9, none, .len, [.t 8]⟩,
      ⟨some 2, none, .mv, [.t 9]⟩])
    .ret))) []

/-- (*tripwire/shelf.Shelf[int, tripwire/dict.entry]).Put -/
def c61 : CFn := CFn.mk 3 [.t 6 false]
    (.seq (.reg [⟨some 5, none, .box, [.t 2]⟩,
      ⟨some 6, none, .mv, [.c (.bool false)]⟩])
    (.seq (.seq (.reg [⟨some 9, none, .mv, [.t 0]⟩,
      ⟨some 10, none, .pnil false, [.t 9]⟩,
      ⟨some 11, none, .mv, [.t 10]⟩,
      ⟨some 12, (some (11, false)), .mv, [.t 1]⟩,
      ⟨some 13, (some (11, false)), .mv, [.t 1]⟩,
      ⟨some 14, (some (11, false)), .bin .neq, [.t 12, .t 13]⟩,
      ⟨some 15, none, .pick, [.t 11, .c (.bool true), .t 14]⟩])
    (.cond (.t 15) (.seq (.reg [⟨some 6, none, .mv, [.c (.bool false)]⟩])
    .ret) .skip))
    (.seq (.reg [⟨some 17, none, .mv, [.t 0]⟩,
      ⟨some 18, none, .mv, [.t 1]⟩,
      ⟨some 19, none, .call 104 false, [.t 17, .t 18]⟩,
      ⟨some 16, none, .mv, [.t 19]⟩,
      ⟨some 20, none, .ext 0, [.t 16]⟩,
      ⟨some 21, none, .ext 1, [.t 16]⟩,
      ⟨some 7, none, .mv, [.t 20]⟩,
      ⟨some 8, none, .mv, [.t 21]⟩])
    (.seq (.seq (.reg [⟨some 22, none, .mv, [.t 8]⟩])
    (.cond (.t 22) (.seq (.draw 6 [0, 1, 3, 7, 0, 0, 63, 127, 255] [⟨some 23, none, .mv, [.t 0]⟩,
      ⟨some 24, none, .nilc, [.t 23]⟩,
      ⟨some 25, none, .fadr 0, [.t 24]⟩,
      ⟨some 26, none, .load false 1, [.t 25]⟩,
      ⟨some 27, none, .mv, [.t 7]⟩,
      ⟨some 28, none, .load true 5, [.t 5]⟩,
      ⟨some 29, none, .ladr 6, [.t 26, .t 27]⟩,
      ⟨some 30, none, .fadr 1, [.t 29]⟩,
      ⟨none, none, .store 5, [.t 30, .t 28]⟩])
    (.seq (.reg [⟨some 6, none, .mv, [.c (.bool true)]⟩])
    .ret)) .skip))
    (.seq (.draw 1000000 [0, 0, 2, 6, 14, 0, 0, 0, 192, 448, 1022, 2047, 4095, 8191] [⟨some 31, none, .mv, [.t 0]⟩,
      ⟨some 32, none, .mv, [.t 0]⟩,
      ⟨some 33, none, .nilc, [.t 32]⟩,
      ⟨some 34, none, .fadr 0, [.t 33]⟩,
      ⟨some 35, none, .load false 1, [.t 34]⟩,
      ⟨some 36, none, .mv, [.t 7]⟩,
      ⟨some 37, none, .mv, [.t 1]⟩,
      ⟨some 38, none, .load true 5, [.t 5]⟩,
      ⟨some 39, none, .build [(.int .i64 0), (.int .i64 0), (.int .i64 0), (.int .i64 0), (.int .i64 0), (.lst none true 1 [])] [(0, 1), (1, 5)], [.t 37, .t 38]⟩,
      ⟨some 40, none, .bsl false 6 166, [.t 39]⟩,
      ⟨some 41, none, .call 105 true, [.t 35, .t 36, .t 40]⟩,
      ⟨some 42, none, .nilc, [.t 31]⟩,
      ⟨some 43, none, .fadr 0, [.t 42]⟩,
      ⟨none, none, .store 1, [.t 43, .t 41]⟩])
    (.seq (.reg [⟨some 6, none, .mv, [.c (.bool false)]⟩])
    .ret)))))) []

/-- bytes.Clone -/
def c62 : CFn := CFn.mk 1 [.t 2 false]
    (.seq (.reg [⟨some 2, none, .nil false 1 5, []⟩])
    (.seq (.seq (.reg [⟨some 3, none, .mv, [.t 0]⟩,
      ⟨some 4, none, .lnil false, [.t 3]⟩])
    (.cond (.t 4) (.seq (.reg [⟨some 2, none, .nil false 1 5, []⟩])
    .ret) .skip))
    (.seq (.reg [⟨some 5, none, .bsl true 1 5, []⟩,
      ⟨some 6, none, .mv, [.t 0]⟩,
      ⟨some 7, none, .app false 1 1 5, [.t 5, .t 6]⟩,
      ⟨some 2, none, .mv, [.t 7]⟩])
    .ret))) []

/-- tripwire/tripwireref15.one -/
def c63 : CFn := CFn.mk 6 [.cell 12 true 7]
    (.seq (.reg [⟨some 12, none, .alloc [(.int .i64 0), (.int .i64 0), (.int .i64 0), (.int .i64 0), (.int .i64 0), (.int .i64 0), (.str ByteArray.empty)], []⟩])
    (.seq (.reg [⟨some 16, none, .mv, [.t 2]⟩,
      ⟨some 17, none, .mv, [.t 3]⟩,
      ⟨some 18, none, .mv, [.t 4]⟩,
      ⟨some 19, none, .build [(.int .i64 0), (.int .i64 0), (.int .i64 0), (.int .i64 0)] [(0, 1), (1, 1), (2, 1), (3, 1)], [.t 16, .c (.int .i64 3), .t 17, .t 18]⟩,
      ⟨some 13, none, .alloc [(.int .i64 0), (.int .i64 0), (.int .i64 0), (.int .i64 0)], []⟩,
      ⟨none, none, .store 4, [.t 13, .t 19]⟩])
    (.seq (.seq (.reg [⟨some 20, none, .mv, [.t 5]⟩])
    (.cond (.t 20) (.reg [⟨some 21, none, .fadr 1, [.t 13]⟩,
      ⟨none, none, .store 1, [.t 21, .c (.int .i64 4)]⟩]) .skip))
    (.seq (.reg [⟨some 23, none, .mv, [.t 2]⟩,
      ⟨some 24, none, .mv, [.t 3]⟩,
      ⟨some 25, none, .callh 97, [.t 23, .t 24]⟩,
      ⟨some 22, none, .mv, [.t 25]⟩,
      ⟨some 26, none, .ext 0, [.t 22]⟩,
      ⟨some 27, none, .ext 1, [.t 22]⟩,
      ⟨some 14, none, .mv, [.t 26]⟩,
      ⟨some 15, none, .mv, [.t 27]⟩])
    (.seq (.draw 6 [0, 0, 3, 0, 0, 16, 63, 127] [⟨some 28, none, .mv, [.t 0]⟩,
      ⟨some 29, none, .mv, [.t 1]⟩,
      ⟨some 30, none, .callh 106, [.t 28, .t 29]⟩,
      ⟨some 31, none, .load true 4, [.t 13]⟩,
      ⟨some 32, none, .mv, [.t 14]⟩,
      ⟨some 33, none, .b2s, [.t 32]⟩,
      ⟨some 34, none, .build [(.int .i64 0), (.int .i64 0), (.int .i64 0), (.int .i64 0), (.int .i64 0), (.int .i64 0), (.str ByteArray.empty)] [(0, 2), (2, 4), (6, 1)], [.t 30, .t 31, .t 33]⟩,
      ⟨none, none, .store 7, [.t 12, .t 34]⟩])
    .ret))))) []

/-- tripwire/area.SetFlag -/
def c64 : CFn := CFn.mk 2 [.t 4 false]
    (.seq (.reg [⟨some 4, none, .mv, [.c (.int .i64 0)]⟩])
    (.seq (.reg [⟨some 5, none, .mv, [.c (.int .i64 0)]⟩])
    (.seq (.seq (.reg [⟨some 6, none, .mv, [.t 1]⟩])
    (.cond (.t 6) (.reg [⟨some 5, none, .mv, [.c (.int .i64 165)]⟩]) .skip))
    (.seq (.reg [⟨some 7, none, .mv, [.t 0]⟩,
      ⟨some 8, none, .build [(.int .i64 0), (.int .i64 0)] [(0, 1)], [.c (.int .i64 5118)]⟩,
      ⟨some 9, none, .mv, [.t 5]⟩,
      ⟨some 10, none, .call 48 false, [.t 7, .t 8, .t 9]⟩,
      ⟨some 4, none, .mv, [.t 10]⟩])
    .ret)))) []

/-- tripwire/area.Flag -/
def c65 : CFn := CFn.mk 1 [.t 2 false]
    (.seq (.reg [⟨some 2, none, .mv, [.c (.bool false)]⟩])
    (.seq (.reg [⟨some 6, none, .mv, [.t 0]⟩,
      ⟨some 7, none, .build [(.int .i64 0), (.int .i64 0)] [(0, 1)], [.c (.int .i64 5118)]⟩,
      ⟨some 8, none, .call 31 false, [.t 6, .t 7]⟩,
      ⟨some 5, none, .mv, [.t 8]⟩,
      ⟨some 9, none, .ext 0, [.t 5]⟩,
      ⟨some 10, none, .ext 1, [.t 5]⟩,
      ⟨some 3, none, .mv, [.t 9]⟩,
      ⟨some 4, none, .mv, [.t 10]⟩])
    (.seq (.reg [⟨some 11, none, .mv, [.t 4]⟩,
      ⟨some 12, none, .mv, [.t 11]⟩,
      ⟨some 13, (some (12, true)), .mv, [.t 3]⟩,
      ⟨some 14, (some (12, true)), .bin .eql, [.t 13, .c (.int .i64 165)]⟩,
      ⟨some 15, none, .pick, [.t 12, .t 14, .c (.bool false)]⟩,
      ⟨some 2, none, .mv, [.t 15]⟩])
    .ret))) []

/-- tripwire/area.all -/
def c66 : CFn := CFn.mk 3 [.t 6 false]
    (.seq (.reg [⟨some 6, none, .mv, [.c (.int .i64 0)]⟩])
    (.seq (.seq (.reg [⟨some 10, none, .mv, [.t 2]⟩,
      ⟨some 11, none, .len, [.t 10]⟩,
      ⟨some 12, none, .mv, [.c (.int .i64 0)]⟩])
    (.block 0 (.loop [0, 1, 10, 11, 12] [] [] [] (.seq (.reg [⟨some 13, none, .bin .lss, [.t 12, .t 11]⟩])
    (.seq (.cond (.t 13) .skip (.exit 0))
    (.seq (.block 1 (.seq (.reg [⟨some 14, none, .ladr 5, [.t 10, .t 12]⟩,
      ⟨some 15, none, .load true 5, [.t 14]⟩,
      ⟨some 8, none, .alloc [(.int .i64 0), (.int .i64 0), (.int .i64 0), (.int .i64 0), (.bool false)], []⟩,
      ⟨none, none, .store 5, [.t 8, .t 15]⟩])
    (.seq (.reg [⟨some 16, none, .mv, [.t 0]⟩,
      ⟨some 17, none, .mv, [.t 1]⟩,
      ⟨some 18, none, .load true 5, [.t 8]⟩,
      ⟨some 19, none, .call 107 false, [.t 16, .t 17, .t 18]⟩,
      ⟨some 9, none, .mv, [.t 19]⟩])
    (.seq (.reg [⟨some 20, none, .mv, [.t 9]⟩,
      ⟨some 21, none, .bin .neq, [.t 20, .c (.int .i64 0)]⟩])
    (.cond (.t 21) (.seq (.reg [⟨some 22, none, .mv, [.t 9]⟩,
      ⟨some 6, none, .mv, [.t 22]⟩])
    .ret) .skip)))))
    (.reg [⟨some 23, none, .bin .add, [.t 12, .c (.int .i64 1)]⟩,
      ⟨some 12, none, .mv, [.t 23]⟩])))))))
    (.seq (.reg [⟨some 6, none, .mv, [.c (.int .i64 0)]⟩])
    .ret))) []

/-- tripwire/area.rows -/
def c67 : CFn := CFn.mk 0 [.t 0 false]
    (.seq (.reg [⟨some 0, none, .nil false 5 122, []⟩])
    (.seq (.reg [⟨some 1, none, .build [(.int .i64 0), (.int .i64 0), (.int .i64 0), (.int .i64 0), (.bool false)] [(0, 1), (1, 1), (2, 1), (3, 1), (4, 1)], [.c (.int .i64 0), .c (.int .i64 2), .c (.int .i64 6), .c (.int .i64 6), .c (.bool true)]⟩,
      ⟨some 2, none, .build [(.int .i64 0), (.int .i64 0), (.int .i64 0), (.int .i64 0), (.bool false)] [(0, 1), (1, 1), (2, 1), (3, 1), (4, 1)], [.c (.int .i64 1), .c (.int .i64 2), .c (.int .i64 0), .c (.int .i64 2), .c (.bool false)]⟩,
      ⟨some 3, none, .build [(.int .i64 0), (.int .i64 0), (.int .i64 0), (.int .i64 0), (.bool false)] [(0, 1), (1, 1), (2, 1), (3, 1), (4, 1)], [.c (.int .i64 2), .c (.int .i64 3), .c (.int .i64 1), .c (.int .i64 65535), .c (.bool false)]⟩,
      ⟨some 4, none, .build [(.int .i64 0), (.int .i64 0), (.int .i64 0), (.int .i64 0), (.bool false)] [(0, 1), (1, 1), (2, 1), (3, 1), (4, 1)], [.c (.int .i64 3), .c (.int .i64 3), .c (.int .i64 1), .c (.int .i64 65535), .c (.bool false)]⟩,
      ⟨some 5, none, .build [(.int .i64 0), (.int .i64 0), (.int .i64 0), (.int .i64 0), (.bool false)] [(0, 1), (1, 1), (2, 1), (3, 1), (4, 1)], [.c (.int .i64 4), .c (.int .i64 2), .c (.int .i64 254), .c (.int .i64 254), .c (.bool true)]⟩,
      ⟨some 6, none, .build [(.int .i64 0), (.int .i64 0), (.int .i64 0), (.int .i64 0), (.bool false)] [(0, 1), (1, 1), (2, 1), (3, 1), (4, 1)], [.c (.int .i64 5), .c (.int .i64 4), .c (.int .i64 257), .c (.int .i64 383), .c (.bool false)]⟩,
      ⟨some 7, none, .build [(.int .i64 0), (.int .i64 0), (.int .i64 0), (.int .i64 0), (.bool false)] [(0, 1), (1, 1), (2, 1), (3, 1), (4, 1)], [.c (.int .i64 6), .c (.int .i64 4), .c (.int .i64 258), .c (.int .i64 384), .c (.bool false)]⟩,
      ⟨some 8, none, .bsl false 5 122, [.t 1, .t 2, .t 3, .t 4, .t 5, .t 6, .t 7]⟩,
      ⟨some 0, none, .mv, [.t 8]⟩])
    .ret)) []

/-- tripwire/area.many -/
def c68 : CFn := CFn.mk 3 [.t 6 false]
    (.seq (.reg [⟨some 6, none, .nil false 5 122, []⟩])
    (.seq (.reg [⟨some 7, none, .nil true 5 122, []⟩])
    (.seq (.seq (.reg [⟨some 9, none, .mv, [.t 1]⟩,
      ⟨some 10, none, .mv, [.c (.int .i64 0)]⟩])
    (.block 0 (.loop [0, 2, 7, 9, 10] [] [7] [] (.seq (.reg [⟨some 11, none, .bin .lss, [.t 10, .t 9]⟩])
    (.seq (.cond (.t 11) .skip (.exit 0))
    (.seq (.block 1 (.seq (.reg [⟨some 12, none, .mv, [.t 10]⟩,
      ⟨some 8, none, .mv, [.t 12]⟩])
    (.reg [⟨some 13, none, .mv, [.t 7]⟩,
      ⟨some 14, none, .mv, [.t 0]⟩,
      ⟨some 15, none, .mv, [.t 8]⟩,
      ⟨some 16, none, .bin .add, [.t 14, .t 15]⟩,
      ⟨some 17, none, .mv, [.t 2]⟩,
      ⟨some 18, none, .mv, [.t 2]⟩,
      ⟨some 19, none, .callh 108, [.t 18]⟩,
      ⟨some 20, none, .build [(.int .i64 0), (.int .i64 0), (.int .i64 0), (.int .i64 0), (.bool false)] [(0, 1), (1, 1), (2, 1), (3, 1), (4, 1)], [.t 16, .t 17, .c (.int .i64 0), .t 19, .c (.bool false)]⟩,
      ⟨some 21, none, .bsl false 5 122, [.t 20]⟩,
      ⟨some 22, none, .app false 5 40 122, [.t 13, .t 21]⟩,
      ⟨some 7, none, .mv, [.t 22]⟩])))
    (.reg [⟨some 23, none, .bin .add, [.t 10, .c (.int .i64 1)]⟩,
      ⟨some 10, none, .mv, [.t 23]⟩])))))))
    (.seq (.reg [⟨some 24, none, .mv, [.t 7]⟩,
      ⟨some 6, none, .mv, [.t 24]⟩])
    .ret)))) []

/-- tripwire/word.Fits -/
def c69 : CFn := CFn.mk 2 [.t 4 false]
    (.seq (.reg [⟨some 4, none, .mv, [.c (.bool false)]⟩])
    (.seq (.reg [⟨some 5, none, .mv, [.t 0]⟩,
      ⟨some 6, none, .callh 100, [.t 5]⟩,
      ⟨some 7, none, .bin .gtr, [.t 6, .c (.int .i64 0)]⟩,
      ⟨some 8, none, .mv, [.t 7]⟩,
      ⟨some 9, (some (8, true)), .mv, [.t 1]⟩,
      ⟨some 10, (some (8, true)), .mv, [.t 0]⟩,
      ⟨some 11, (some (8, true)), .callh 109, [.t 10]⟩,
      ⟨some 12, (some (8, true)), .bin .geq, [.t 9, .t 11]⟩,
      ⟨some 13, none, .pick, [.t 8, .t 12, .c (.bool false)]⟩,
      ⟨some 14, none, .mv, [.t 13]⟩,
      ⟨some 15, (some (14, true)), .mv, [.t 1]⟩,
      ⟨some 16, (some (14, true)), .mv, [.t 0]⟩,
      ⟨some 17, (some (14, true)), .callh 108, [.t 16]⟩,
      ⟨some 18, (some (14, true)), .bin .leq, [.t 15, .t 17]⟩,
      ⟨some 19, none, .pick, [.t 14, .t 18, .c (.bool false)]⟩,
      ⟨some 4, none, .mv, [.t 19]⟩])
    .ret)) []

/-- (*tripwire/shelf.Shelf[int, tripwire/dict.entry]).Fork -/
def c70 : CFn := CFn.mk 1 [.t 2 false]
    (.seq (.reg [⟨some 2, none, .mv, [.c .nilp]⟩])
    (.seq (.seq (.reg [⟨some 3, none, .mv, [.t 0]⟩,
      ⟨some 4, none, .pnil false, [.t 3]⟩])
    (.cond (.t 4) (.seq (.reg [⟨some 2, none, .mv, [.c .nilp]⟩])
    .ret) .skip))
    (.seq (.reg [⟨some 5, none, .mv, [.t 0]⟩,
      ⟨some 6, none, .nilc, [.t 5]⟩,
      ⟨some 7, none, .fadr 0, [.t 6]⟩,
      ⟨some 8, none, .load false 1, [.t 7]⟩,
      ⟨some 9, none, .call 110 true, [.t 8]⟩,
      ⟨some 10, none, .build [(.lst none true 6 [])] [(0, 1)], [.t 9]⟩,
      ⟨some 11, none, .box, [.t 10]⟩,
      ⟨some 2, none, .mv, [.t 11]⟩])
    .ret))) []

/-- (*tripwire/dict.Dict).missing -/
def c71 : CFn := CFn.mk 2 [.cell 4 false 1]
    (.seq (.reg [⟨some 3, none, .box, [.t 1]⟩,
      ⟨some 4, none, .alloc [(.int .i64 0)], []⟩])
    (.seq (.seq (.reg [⟨some 5, none, .mv, [.t 0]⟩,
      ⟨some 6, none, .fadr 0, [.t 3]⟩,
      ⟨some 7, none, .load false 1, [.t 6]⟩,
      ⟨some 8, none, .call 35 false, [.t 5, .t 7]⟩])
    (.block 0 (.range (.t 8) 500000000 [4] 71 0)))
    (.seq (.reg [⟨none, none, .store 1, [.t 4, .c (.int .i64 100794368)]⟩])
    .ret))) [Rd.mk [9] [4] .skip (.block 1 (.seq (.reg [⟨none, none, .store 1, [.t 4, .c (.int .i64 101253137)]⟩])
    .ret))]

/-- tripwire/value.Writes -/
def c72 : CFn := CFn.mk 1 [.t 2 false]
    (.seq (.reg [⟨some 2, none, .mv, [.c (.int .i64 0)]⟩])
    (.seq (.seq (.reg [⟨some 3, none, .mv, [.t 0]⟩])
    (.block 0 (.seq (.block 3 (.block 2 (.seq (.block 1 (.seq (.seq (.seq (.seq (.reg [⟨some 5, none, .bin .eql, [.t 3, .c (.int .i64 2)]⟩,
      ⟨some 4, none, .mv, [.t 5]⟩])
    (.cond (.t 4) .skip (.reg [⟨some 6, none, .bin .eql, [.t 3, .c (.int .i64 3)]⟩,
      ⟨some 4, none, .mv, [.t 6]⟩])))
    (.cond (.t 4) (.exit 1) .skip))
    (.seq (.seq (.reg [⟨some 8, none, .bin .eql, [.t 3, .c (.int .i64 4)]⟩,
      ⟨some 7, none, .mv, [.t 8]⟩])
    (.cond (.t 7) (.exit 2) .skip))
    (.seq (.reg [⟨some 10, none, .bin .eql, [.t 3, .c (.int .i64 1)]⟩,
      ⟨some 9, none, .mv, [.t 10]⟩])
    (.cond (.t 9) (.exit 3) .skip))))
    (.exit 0)))
    (.seq (.seq (.reg [⟨some 2, none, .mv, [.c (.int .i64 0)]⟩])
    .ret)
    (.exit 0)))))
    (.seq (.seq (.reg [⟨some 2, none, .mv, [.c (.int .i64 100728834)]⟩])
    .ret)
    (.exit 0)))))
    (.seq (.reg [⟨some 2, none, .mv, [.c (.int .i64 100728832)]⟩])
    .ret))) []

/-- (*tripwire/dict.Dict).hold -/
def c73 : CFn := CFn.mk 4 []
    (.seq (.reg [⟨some 5, none, .box, [.t 1]⟩,
      ⟨some 6, none, .box, [.t 2]⟩])
    (.seq (.seq (.reg [⟨some 8, none, .fadr 4, [.t 6]⟩,
      ⟨some 9, none, .load false 1, [.t 8]⟩,
      ⟨some 10, none, .mv, [.t 3]⟩,
      ⟨some 11, none, .callh 111, [.t 9, .t 10]⟩,
      ⟨some 12, none, .un .not, [.t 11]⟩])
    (.cond (.t 12) (.reg [⟨some 13, none, .mv, [.t 0]⟩,
      ⟨some 14, none, .nilc, [.t 13]⟩,
      ⟨some 15, none, .fadr 1, [.t 14]⟩,
      ⟨some 16, none, .load false 1, [.t 15]⟩,
      ⟨some 17, none, .bin .add, [.t 16, .c (.int .i64 1)]⟩,
      ⟨some 18, none, .nilc, [.t 13]⟩,
      ⟨some 19, none, .fadr 1, [.t 18]⟩,
      ⟨none, none, .store 1, [.t 19, .t 17]⟩]) .skip))
    (.draw 11 [0, 1, 3, 7, 0, 16, 0, 64, 0, 304, 1008, 2047] [⟨some 20, none, .mv, [.t 0]⟩,
      ⟨some 21, none, .nilc, [.t 20]⟩,
      ⟨some 22, none, .fadr 0, [.t 21]⟩,
      ⟨some 23, none, .load false 1, [.t 22]⟩,
      ⟨some 24, none, .load true 2, [.t 5]⟩,
      ⟨some 25, none, .callh 55, [.t 24]⟩,
      ⟨some 26, none, .fadr 0, [.t 6]⟩,
      ⟨some 27, none, .load true 4, [.t 26]⟩,
      ⟨some 28, none, .mv, [.t 3]⟩,
      ⟨some 29, none, .callh 62, [.t 28]⟩,
      ⟨some 30, none, .build [(.int .i64 0), (.int .i64 0), (.int .i64 0), (.int .i64 0), (.lst none true 1 [])] [(0, 4), (4, 1)], [.t 27, .t 29]⟩,
      ⟨some 31, none, .call 61 false, [.t 23, .t 25, .t 30]⟩]))) []

/-- tripwire/tripwireref02.Shape -/
def c74 : CFn := CFn.mk 1 [.t 2 false, .t 3 false, .t 4 false]
    (.seq (.reg [⟨some 2, none, .mv, [.c (.int .i64 0)]⟩,
      ⟨some 3, none, .mv, [.c (.int .i64 0)]⟩,
      ⟨some 4, none, .mv, [.c (.int .i64 0)]⟩])
    (.seq (.seq (.reg [⟨some 5, none, .mv, [.t 0]⟩])
    (.block 0 (.seq (.reg [⟨some 7, none, .bin .eql, [.t 5, .c (.int .i64 1)]⟩,
      ⟨some 6, none, .mv, [.t 7]⟩])
    (.cond (.t 6) (.seq (.reg [⟨some 2, none, .mv, [.c (.int .i64 1)]⟩,
      ⟨some 3, none, .mv, [.c (.int .i64 0)]⟩,
      ⟨some 4, none, .mv, [.c (.int .i64 1)]⟩])
    .ret) (.seq (.reg [⟨some 9, none, .bin .eql, [.t 5, .c (.int .i64 2)]⟩,
      ⟨some 8, none, .mv, [.t 9]⟩])
    (.cond (.t 8) (.seq (.reg [⟨some 2, none, .mv, [.c (.int .i64 1)]⟩,
      ⟨some 3, none, .mv, [.c (.int .i64 0)]⟩,
      ⟨some 4, none, .mv, [.c (.int .i64 255)]⟩])
    .ret) (.seq (.reg [⟨some 11, none, .bin .eql, [.t 5, .c (.int .i64 3)]⟩,
      ⟨some 10, none, .mv, [.t 11]⟩])
    (.cond (.t 10) (.seq (.reg [⟨some 2, none, .mv, [.c (.int .i64 2)]⟩,
      ⟨some 3, none, .mv, [.c (.int .i64 0)]⟩,
      ⟨some 4, none, .mv, [.c (.int .i64 65535)]⟩])
    .ret) (.seq (.reg [⟨some 13, none, .bin .eql, [.t 5, .c (.int .i64 4)]⟩,
      ⟨some 12, none, .mv, [.t 13]⟩])
    (.cond (.t 12) (.seq (.reg [⟨some 2, none, .mv, [.c (.int .i64 4)]⟩,
      ⟨some 3, none, .mv, [.c (.int .i64 0)]⟩,
      ⟨some 4, none, .mv, [.c (.int .i64 4294967295)]⟩])
    .ret) (.seq (.reg [⟨some 15, none, .bin .eql, [.t 5, .c (.int .i64 5)]⟩,
      ⟨some 14, none, .mv, [.t 15]⟩])
    (.cond (.t 14) (.seq (.reg [⟨some 2, none, .mv, [.c (.int .i64 1)]⟩,
      ⟨some 3, none, .mv, [.c (.int .i64 (-128))]⟩,
      ⟨some 4, none, .mv, [.c (.int .i64 127)]⟩])
    .ret) (.seq (.reg [⟨some 17, none, .bin .eql, [.t 5, .c (.int .i64 6)]⟩,
      ⟨some 16, none, .mv, [.t 17]⟩])
    (.cond (.t 16) (.seq (.reg [⟨some 2, none, .mv, [.c (.int .i64 2)]⟩,
      ⟨some 3, none, .mv, [.c (.int .i64 (-32768))]⟩,
      ⟨some 4, none, .mv, [.c (.int .i64 32767)]⟩])
    .ret) (.seq (.reg [⟨some 19, none, .bin .eql, [.t 5, .c (.int .i64 7)]⟩,
      ⟨some 18, none, .mv, [.t 19]⟩])
    (.cond (.t 18) (.seq (.reg [⟨some 2, none, .mv, [.c (.int .i64 4)]⟩,
      ⟨some 3, none, .mv, [.c (.int .i64 (-2147483648))]⟩,
      ⟨some 4, none, .mv, [.c (.int .i64 2147483647)]⟩])
    .ret) .skip))))))))))))))))
    (.seq (.reg [⟨some 2, none, .mv, [.c (.int .i64 0)]⟩,
      ⟨some 3, none, .mv, [.c (.int .i64 0)]⟩,
      ⟨some 4, none, .mv, [.c (.int .i64 0)]⟩])
    .ret))) []

/-- tripwire/tripwireref02.Get -/
def c75 : CFn := CFn.mk 2 [.t 4 false, .t 5 false]
    (.seq (.reg [⟨some 4, none, .mv, [.c (.int .i64 0)]⟩,
      ⟨some 5, none, .mv, [.c (.int .i64 0)]⟩])
    (.seq (.reg [⟨some 12, none, .mv, [.t 0]⟩,
      ⟨some 13, none, .callh 74, [.t 12]⟩,
      ⟨some 11, none, .mv, [.t 13]⟩,
      ⟨some 14, none, .ext 0, [.t 11]⟩,
      ⟨some 15, none, .ext 1, [.t 11]⟩,
      ⟨some 16, none, .ext 2, [.t 11]⟩,
      ⟨some 6, none, .mv, [.t 14]⟩,
      ⟨some 7, none, .mv, [.t 15]⟩,
      ⟨some 8, none, .mv, [.t 16]⟩])
    (.seq (.seq (.reg [⟨some 17, none, .mv, [.t 6]⟩,
      ⟨some 18, none, .bin .eql, [.t 17, .c (.int .i64 0)]⟩])
    (.cond (.t 18) (.seq (.reg [⟨some 4, none, .mv, [.c (.int .i64 0)]⟩,
      ⟨some 5, none, .mv, [.c (.int .i64 2)]⟩])
    .ret) .skip))
    (.seq (.seq (.reg [⟨some 19, none, .mv, [.t 1]⟩,
      ⟨some 20, none, .len, [.t 19]⟩,
      ⟨some 21, none, .mv, [.t 6]⟩,
      ⟨some 22, none, .bin .neq, [.t 20, .t 21]⟩])
    (.cond (.t 22) (.seq (.reg [⟨some 4, none, .mv, [.c (.int .i64 0)]⟩,
      ⟨some 5, none, .mv, [.c (.int .i64 11)]⟩])
    .ret) .skip))
    (.seq (.reg [⟨some 9, none, .mv, [.c (.int .i64 0)]⟩])
    (.seq (.seq (.reg [⟨some 23, none, .mv, [.t 6]⟩,
      ⟨some 24, none, .bin .sub, [.t 23, .c (.int .i64 1)]⟩,
      ⟨some 10, none, .mv, [.t 24]⟩])
    (.block 0 (.loop [1, 6, 7, 8, 9, 10] [] [] [] (.seq (.seq (.reg [⟨some 25, none, .mv, [.t 10]⟩,
      ⟨some 26, none, .bin .geq, [.t 25, .c (.int .i64 0)]⟩])
    (.cond (.t 26) .skip (.exit 0)))
    (.seq (.block 1 (.reg [⟨some 29, none, .mv, [.t 9]⟩,
      ⟨some 30, none, .bin .mul, [.t 29, .c (.int .i64 256)]⟩,
      ⟨some 31, none, .mv, [.t 1]⟩,
      ⟨some 32, none, .mv, [.t 10]⟩,
      ⟨some 33, none, .ladr 1, [.t 31, .t 32]⟩,
      ⟨some 34, none, .load false 1, [.t 33]⟩,
      ⟨some 35, none, .i2i .i64, [.t 34]⟩,
      ⟨some 36, none, .bin .add, [.t 30, .t 35]⟩,
      ⟨some 9, none, .mv, [.t 36]⟩]))
    (.reg [⟨some 27, none, .mv, [.t 10]⟩,
      ⟨some 28, none, .bin .sub, [.t 27, .c (.int .i64 1)]⟩,
      ⟨some 10, none, .mv, [.t 28]⟩]))))))
    (.seq (.seq (.reg [⟨some 37, none, .mv, [.t 9]⟩,
      ⟨some 38, none, .mv, [.t 8]⟩,
      ⟨some 39, none, .bin .gtr, [.t 37, .t 38]⟩])
    (.cond (.t 39) (.reg [⟨some 40, none, .mv, [.t 9]⟩,
      ⟨some 41, none, .mv, [.t 6]⟩,
      ⟨some 42, none, .callh 112, [.t 41]⟩,
      ⟨some 43, none, .bin .sub, [.t 40, .t 42]⟩,
      ⟨some 9, none, .mv, [.t 43]⟩]) .skip))
    (.seq (.seq (.reg [⟨some 44, none, .mv, [.t 9]⟩,
      ⟨some 45, none, .mv, [.t 7]⟩,
      ⟨some 46, none, .bin .lss, [.t 44, .t 45]⟩,
      ⟨some 47, none, .mv, [.t 46]⟩,
      ⟨some 48, (some (47, false)), .mv, [.t 9]⟩,
      ⟨some 49, (some (47, false)), .mv, [.t 8]⟩,
      ⟨some 50, (some (47, false)), .bin .gtr, [.t 48, .t 49]⟩,
      ⟨some 51, none, .pick, [.t 47, .c (.bool true), .t 50]⟩])
    (.cond (.t 51) (.seq (.reg [⟨some 4, none, .mv, [.c (.int .i64 0)]⟩,
      ⟨some 5, none, .mv, [.c (.int .i64 4)]⟩])
    .ret) .skip))
    (.seq (.reg [⟨some 52, none, .mv, [.t 9]⟩,
      ⟨some 4, none, .mv, [.t 52]⟩,
      ⟨some 5, none, .mv, [.c (.int .i64 0)]⟩])
    .ret))))))))) []

/-- tripwire/value.Reads -/
def c76 : CFn := CFn.mk 1 [.t 2 false]
    (.seq (.reg [⟨some 2, none, .mv, [.c (.int .i64 0)]⟩])
    (.seq (.seq (.reg [⟨some 3, none, .mv, [.t 0]⟩])
    (.block 0 (.seq (.seq (.reg [⟨some 5, none, .bin .eql, [.t 3, .c (.int .i64 1)]⟩,
      ⟨some 4, none, .mv, [.t 5]⟩])
    (.cond (.t 4) .skip (.seq (.reg [⟨some 6, none, .bin .eql, [.t 3, .c (.int .i64 3)]⟩,
      ⟨some 4, none, .mv, [.t 6]⟩])
    (.cond (.t 4) .skip (.reg [⟨some 7, none, .bin .eql, [.t 3, .c (.int .i64 4)]⟩,
      ⟨some 4, none, .mv, [.t 7]⟩])))))
    (.cond (.t 4) (.seq (.reg [⟨some 2, none, .mv, [.c (.int .i64 0)]⟩])
    .ret) (.seq (.reg [⟨some 9, none, .bin .eql, [.t 3, .c (.int .i64 2)]⟩,
      ⟨some 8, none, .mv, [.t 9]⟩])
    (.cond (.t 8) (.seq (.reg [⟨some 2, none, .mv, [.c (.int .i64 100728833)]⟩])
    .ret) .skip))))))
    (.seq (.reg [⟨some 2, none, .mv, [.c (.int .i64 100728832)]⟩])
    .ret))) []

/-- tripwire/tripwireref14.Missing -/
def c77 : CFn := CFn.mk 2 [.t 4 false]
    (.seq (.reg [⟨some 2, none, .box, [.t 0]⟩,
      ⟨some 3, none, .box, [.t 1]⟩,
      ⟨some 4, none, .mv, [.c (.int .i64 0)]⟩])
    (.seq (.seq (.reg [⟨some 5, none, .mv, [.c (.int .i64 0)]⟩])
    (.block 0 (.loop [2, 3, 5] [2, 3] [] [] (.seq (.seq (.reg [⟨some 6, none, .mv, [.t 5]⟩,
      ⟨some 7, none, .fadr 0, [.t 2]⟩,
      ⟨some 8, none, .load false 1, [.t 7]⟩,
      ⟨some 9, none, .len, [.t 8]⟩,
      ⟨some 10, none, .bin .lss, [.t 6, .t 9]⟩])
    (.cond (.t 10) .skip (.exit 0)))
    (.seq (.block 1 (.seq (.draw 9 [0, 1, 0, 7, 15, 31, 63, 0, 128, 511] [⟨some 13, none, .fadr 0, [.t 2]⟩,
      ⟨some 14, none, .load false 1, [.t 13]⟩,
      ⟨some 15, none, .mv, [.t 5]⟩,
      ⟨some 16, none, .ladr 7, [.t 14, .t 15]⟩,
      ⟨some 17, none, .fadr 0, [.t 16]⟩,
      ⟨some 18, none, .fadr 0, [.t 17]⟩,
      ⟨some 19, none, .load false 1, [.t 18]⟩,
      ⟨some 20, none, .fadr 0, [.t 3]⟩,
      ⟨some 21, none, .load false 1, [.t 20]⟩,
      ⟨some 22, none, .bin .eql, [.t 19, .t 21]⟩])
    (.cond (.t 22) (.seq (.reg [⟨some 4, none, .mv, [.c (.int .i64 101253137)]⟩])
    .ret) .skip)))
    (.reg [⟨some 11, none, .mv, [.t 5]⟩,
      ⟨some 12, none, .bin .add, [.t 11, .c (.int .i64 1)]⟩,
      ⟨some 5, none, .mv, [.t 12]⟩]))))))
    (.seq (.reg [⟨some 4, none, .mv, [.c (.int .i64 100794368)]⟩])
    .ret))) []

/-- tripwire/tripwireref13.Reads -/
def c78 : CFn := CFn.mk 1 [.t 2 false]
    (.seq (.reg [⟨some 2, none, .mv, [.c (.int .i64 0)]⟩])
    (.seq (.reg [⟨some 4, none, .bsl false 1 57, [.c (.int .i64 100728832), .c (.int .i64 0), .c (.int .i64 100728833), .c (.int .i64 0), .c (.int .i64 0)]⟩,
      ⟨some 3, none, .mv, [.t 4]⟩])
    (.seq (.seq (.reg [⟨some 5, none, .mv, [.t 0]⟩,
      ⟨some 6, none, .bin .lss, [.t 5, .c (.int .i64 0)]⟩,
      ⟨some 7, none, .mv, [.t 6]⟩,
      ⟨some 8, (some (7, false)), .mv, [.t 0]⟩,
      ⟨some 9, (some (7, false)), .bin .gtr, [.t 8, .c (.int .i64 4)]⟩,
      ⟨some 10, none, .pick, [.t 7, .c (.bool true), .t 9]⟩])
    (.cond (.t 10) (.seq (.reg [⟨some 2, none, .mv, [.c (.int .i64 100728832)]⟩])
    .ret) .skip))
    (.seq (.reg [⟨some 11, none, .mv, [.t 3]⟩,
      ⟨some 12, none, .mv, [.t 0]⟩,
      ⟨some 13, none, .ladr 1, [.t 11, .t 12]⟩,
      ⟨some 14, none, .load false 1, [.t 13]⟩,
      ⟨some 2, none, .mv, [.t 14]⟩])
    .ret)))) []

/-- tripwire/value.Num -/
def c79 : CFn := CFn.mk 2 [.t 4 false, .t 5 false]
    (.seq (.reg [⟨some 2, none, .box, [.t 0]⟩,
      ⟨some 4, none, .mv, [.c (.int .i64 0)]⟩,
      ⟨some 5, none, .mv, [.c (.bool false)]⟩])
    (.seq (.seq (.reg [⟨some 8, none, .load true 4, [.t 2]⟩,
      ⟨some 9, none, .callh 98, [.t 8]⟩,
      ⟨some 10, none, .un .not, [.t 9]⟩,
      ⟨some 11, none, .mv, [.t 10]⟩,
      ⟨some 12, (some (11, false)), .load true 4, [.t 2]⟩,
      ⟨some 13, (some (11, false)), .mv, [.t 1]⟩,
      ⟨some 14, (some (11, false)), .callh 57, [.t 12, .t 13]⟩,
      ⟨some 15, (some (11, false)), .bin .neq, [.t 14, .c (.int .i64 0)]⟩,
      ⟨some 16, none, .pick, [.t 11, .c (.bool true), .t 15]⟩])
    (.cond (.t 16) (.seq (.reg [⟨some 4, none, .mv, [.c (.int .i64 0)]⟩,
      ⟨some 5, none, .mv, [.c (.bool false)]⟩])
    .ret) .skip))
    (.seq (.reg [⟨some 18, none, .fadr 0, [.t 2]⟩,
      ⟨some 19, none, .load false 1, [.t 18]⟩,
      ⟨some 20, none, .mv, [.t 1]⟩,
      ⟨some 21, none, .callh 101, [.t 19, .t 20]⟩,
      ⟨some 17, none, .mv, [.t 21]⟩,
      ⟨some 22, none, .ext 0, [.t 17]⟩,
      ⟨some 23, none, .ext 1, [.t 17]⟩,
      ⟨some 6, none, .mv, [.t 22]⟩,
      ⟨some 7, none, .mv, [.t 23]⟩])
    (.seq (.reg [⟨some 24, none, .mv, [.t 6]⟩,
      ⟨some 25, none, .mv, [.t 7]⟩,
      ⟨some 26, none, .bin .eql, [.t 25, .c (.int .i64 0)]⟩,
      ⟨some 4, none, .mv, [.t 24]⟩,
      ⟨some 5, none, .mv, [.t 26]⟩])
    .ret)))) []

/-- tripwire/tripwireref13.Num -/
def c80 : CFn := CFn.mk 2 [.t 4 false, .t 5 false]
    (.seq (.reg [⟨some 2, none, .box, [.t 0]⟩,
      ⟨some 4, none, .mv, [.c (.int .i64 0)]⟩,
      ⟨some 5, none, .mv, [.c (.bool false)]⟩])
    (.seq (.seq (.reg [⟨some 8, none, .fadr 0, [.t 2]⟩,
      ⟨some 9, none, .load false 1, [.t 8]⟩,
      ⟨some 10, none, .bin .eql, [.t 9, .c (.int .i64 8)]⟩,
      ⟨some 11, none, .mv, [.t 10]⟩,
      ⟨some 12, (some (11, false)), .load true 4, [.t 2]⟩,
      ⟨some 13, (some (11, false)), .mv, [.t 1]⟩,
      ⟨some 14, (some (11, false)), .callh 27, [.t 12, .t 13]⟩,
      ⟨some 15, (some (11, false)), .bin .neq, [.t 14, .c (.int .i64 0)]⟩,
      ⟨some 16, none, .pick, [.t 11, .c (.bool true), .t 15]⟩])
    (.cond (.t 16) (.seq (.reg [⟨some 4, none, .mv, [.c (.int .i64 0)]⟩,
      ⟨some 5, none, .mv, [.c (.bool false)]⟩])
    .ret) .skip))
    (.seq (.reg [⟨some 18, none, .fadr 0, [.t 2]⟩,
      ⟨some 19, none, .load false 1, [.t 18]⟩,
      ⟨some 20, none, .mv, [.t 1]⟩,
      ⟨some 21, none, .callh 75, [.t 19, .t 20]⟩,
      ⟨some 17, none, .mv, [.t 21]⟩,
      ⟨some 22, none, .ext 0, [.t 17]⟩,
      ⟨some 23, none, .ext 1, [.t 17]⟩,
      ⟨some 6, none, .mv, [.t 22]⟩,
      ⟨some 7, none, .mv, [.t 23]⟩])
    (.seq (.reg [⟨some 24, none, .mv, [.t 6]⟩,
      ⟨some 4, none, .mv, [.t 24]⟩,
      ⟨some 5, none, .mv, [.c (.bool true)]⟩])
    .ret)))) []

/-- tripwire/tripwireref14.less -/
def c81 : CFn := CFn.mk 2 [.t 4 false]
    (.seq (.reg [⟨some 2, none, .box, [.t 0]⟩,
      ⟨some 3, none, .box, [.t 1]⟩,
      ⟨some 4, none, .mv, [.c (.bool false)]⟩])
    (.seq (.reg [⟨some 5, none, .fadr 0, [.t 2]⟩,
      ⟨some 6, none, .load false 1, [.t 5]⟩,
      ⟨some 7, none, .fadr 0, [.t 3]⟩,
      ⟨some 8, none, .load false 1, [.t 7]⟩,
      ⟨some 9, none, .bin .lss, [.t 6, .t 8]⟩,
      ⟨some 10, none, .mv, [.t 9]⟩,
      ⟨some 11, (some (10, false)), .fadr 0, [.t 2]⟩,
      ⟨some 12, (some (10, false)), .load false 1, [.t 11]⟩,
      ⟨some 13, (some (10, false)), .fadr 0, [.t 3]⟩,
      ⟨some 14, (some (10, false)), .load false 1, [.t 13]⟩,
      ⟨some 15, (some (10, false)), .bin .eql, [.t 12, .t 14]⟩,
      ⟨some 16, (some (10, false)), .mv, [.t 15]⟩,
      ⟨some 17, (some (16, true)), .fadr 1, [.t 2]⟩,
      ⟨some 18, (some (16, true)), .load false 1, [.t 17]⟩,
      ⟨some 19, (some (16, true)), .fadr 1, [.t 3]⟩,
      ⟨some 20, (some (16, true)), .load false 1, [.t 19]⟩,
      ⟨some 21, (some (16, true)), .bin .lss, [.t 18, .t 20]⟩,
      ⟨some 22, (some (10, false)), .pick, [.t 16, .t 21, .c (.bool false)]⟩,
      ⟨some 23, none, .pick, [.t 10, .c (.bool true), .t 22]⟩,
      ⟨some 4, none, .mv, [.t 23]⟩])
    .ret)) []

/-- (*tripwire/dict.Dict).Subs$1 -/
def c82 : CFn := CFn.mk 3 []
    (.seq (.reg [⟨some 3, none, .box, [.t 0]⟩])
    (.seq (.reg [⟨some 6, none, .load false 1, [.t 1]⟩,
      ⟨some 7, none, .build [(.int .i64 0), (.int .i64 0)] [(0, 1)], [.t 6]⟩,
      ⟨some 8, none, .callh 55, [.t 7]⟩,
      ⟨some 4, none, .alloc [(.int .i64 0)], []⟩,
      ⟨none, none, .store 1, [.t 4, .t 8]⟩])
    (.seq (.seq (.reg [⟨some 9, none, .load false 1, [.t 2]⟩,
      ⟨some 10, none, .pnil false, [.t 9]⟩,
      ⟨some 11, none, .mv, [.t 10]⟩,
      ⟨some 12, (some (11, false)), .load false 1, [.t 4]⟩,
      ⟨some 13, (some (11, false)), .bin .lss, [.t 12, .c (.int .i64 0)]⟩,
      ⟨some 14, none, .pick, [.t 11, .c (.bool true), .t 13]⟩])
    (.cond (.t 14) .ret .skip))
    (.seq (.draw 5 [0, 1, 3, 7, 0, 31] [⟨some 15, none, .load false 1, [.t 2]⟩,
      ⟨some 16, none, .nilc, [.t 15]⟩,
      ⟨some 17, none, .fadr 0, [.t 16]⟩,
      ⟨some 18, none, .load false 1, [.t 17]⟩,
      ⟨some 19, none, .load false 1, [.t 4]⟩,
      ⟨some 20, none, .call 83 false, [.t 18, .t 19]⟩])
    (.block 0 (.range (.t 20) 500000000 [3, 4] 82 0)))))) [Rd.mk [21, 22] [3, 4] (.reg [⟨some 5, none, .mv, [.t 21]⟩]) (.block 1 (.seq (.reg [⟨some 23, none, .mv, [.t 5]⟩,
      ⟨some 24, none, .load false 1, [.t 4]⟩,
      ⟨some 25, none, .bin .sub, [.t 23, .t 24]⟩,
      ⟨some 26, none, .bin .geq, [.t 25, .c (.int .i64 256)]⟩,
      ⟨some 27, none, .mv, [.t 26]⟩,
      ⟨some 28, (some (27, false)), .load false 1, [.t 3]⟩,
      ⟨some 29, (some (27, false)), .mv, [.t 5]⟩,
      ⟨some 30, (some (27, false)), .load false 1, [.t 4]⟩,
      ⟨some 31, (some (27, false)), .bin .sub, [.t 29, .t 30]⟩,
      ⟨some 32, (some (27, false)), .callv, [.t 28, .t 31]⟩,
      ⟨some 33, (some (27, false)), .un .not, [.t 32]⟩,
      ⟨some 34, none, .pick, [.t 27, .c (.bool true), .t 33]⟩])
    (.cond (.t 34) .ret .skip)))]

/-- (*tripwire/shelf.Shelf[int, tripwire/dict.entry]).From -/
def c83 : CFn := CFn.mk 2 [.t 4 false]
    (.seq (.reg [⟨some 2, none, .box, [.t 0]⟩,
      ⟨some 3, none, .box, [.t 1]⟩,
      ⟨some 4, none, .mv, [.c .nilfn]⟩])
    (.seq (.reg [⟨some 5, none, .mkf 113, [.t 2, .t 3]⟩,
      ⟨some 4, none, .mv, [.t 5]⟩])
    .ret)) []

/-- tripwire/tripwireref14.Put -/
def c85 : CFn := CFn.mk 3 [.cell 6 true 2, .t 7 false]
    (.seq (.reg [⟨some 3, none, .box, [.t 0]⟩,
      ⟨some 4, none, .box, [.t 1]⟩,
      ⟨some 6, none, .alloc [(.lst none true 7 []), (.int .i64 0)], []⟩,
      ⟨some 7, none, .mv, [.c (.int .i64 0)]⟩])
    (.seq (.reg [⟨some 9, none, .load true 2, [.t 3]⟩,
      ⟨some 10, none, .load true 2, [.t 4]⟩,
      ⟨some 11, none, .callh 33, [.t 9, .t 10]⟩,
      ⟨some 8, none, .mv, [.t 11]⟩])
    (.seq (.seq (.reg [⟨some 12, none, .mv, [.t 8]⟩,
      ⟨some 13, none, .bin .lss, [.t 12, .c (.int .i64 0)]⟩])
    (.cond (.t 13) (.seq (.reg [⟨some 14, none, .load true 2, [.t 3]⟩,
      ⟨none, none, .store 2, [.t 6, .t 14]⟩,
      ⟨some 7, none, .mv, [.c (.int .i64 7)]⟩])
    .ret) .skip))
    (.seq (.seq (.reg [⟨some 15, none, .fadr 0, [.t 3]⟩,
      ⟨some 16, none, .load false 1, [.t 15]⟩,
      ⟨some 17, none, .mv, [.t 8]⟩,
      ⟨some 18, none, .ladr 7, [.t 16, .t 17]⟩,
      ⟨some 19, none, .fadr 2, [.t 18]⟩,
      ⟨some 20, none, .fadr 1, [.t 19]⟩,
      ⟨some 21, none, .load false 1, [.t 20]⟩,
      ⟨some 22, none, .bin .eql, [.t 21, .c (.int .i64 4)]⟩])
    (.cond (.t 22) (.seq (.reg [⟨some 23, none, .load true 2, [.t 3]⟩,
      ⟨none, none, .store 2, [.t 6, .t 23]⟩,
      ⟨some 7, none, .mv, [.c (.int .i64 12)]⟩])
    .ret) .skip))
    (.seq (.seq (.reg [⟨some 24, none, .fadr 0, [.t 3]⟩,
      ⟨some 25, none, .load false 1, [.t 24]⟩,
      ⟨some 26, none, .mv, [.t 8]⟩,
      ⟨some 27, none, .ladr 7, [.t 25, .t 26]⟩,
      ⟨some 28, none, .fadr 2, [.t 27]⟩,
      ⟨some 29, none, .load true 4, [.t 28]⟩,
      ⟨some 30, none, .mv, [.t 2]⟩,
      ⟨some 31, none, .callh 27, [.t 29, .t 30]⟩,
      ⟨some 32, none, .bin .neq, [.t 31, .c (.int .i64 0)]⟩])
    (.cond (.t 32) (.seq (.reg [⟨some 33, none, .load true 2, [.t 3]⟩,
      ⟨none, none, .store 2, [.t 6, .t 33]⟩,
      ⟨some 7, none, .mv, [.c (.int .i64 14)]⟩])
    .ret) .skip))
    (.seq (.reg [⟨some 34, none, .load true 2, [.t 3]⟩,
      ⟨some 35, none, .mv, [.t 8]⟩,
      ⟨some 36, none, .mv, [.t 2]⟩,
      ⟨some 37, none, .callh 116, [.t 34, .t 35, .t 36]⟩,
      ⟨none, none, .store 2, [.t 6, .t 37]⟩,
      ⟨some 7, none, .mv, [.c (.int .i64 0)]⟩])
    .ret)))))) []

/-- (*tripwire/dict.Dict).Keys$1 -/
def c88 : CFn := CFn.mk 2 []
    (.seq (.reg [⟨some 2, none, .box, [.t 0]⟩])
    (.seq (.seq (.reg [⟨some 4, none, .load false 1, [.t 1]⟩,
      ⟨some 5, none, .pnil false, [.t 4]⟩])
    (.cond (.t 5) .ret .skip))
    (.seq (.reg [⟨some 6, none, .load false 1, [.t 1]⟩,
      ⟨some 7, none, .nilc, [.t 6]⟩,
      ⟨some 8, none, .fadr 0, [.t 7]⟩,
      ⟨some 9, none, .load false 1, [.t 8]⟩,
      ⟨some 10, none, .call 89 false, [.t 9]⟩])
    (.block 0 (.range (.t 10) 500000000 [2] 88 0))))) [Rd.mk [11, 12] [2] (.reg [⟨some 3, none, .mv, [.t 11]⟩]) (.block 1 (.seq (.draw 3 [0, 0, 2, 7, 15] [⟨some 13, none, .load false 1, [.t 2]⟩,
      ⟨some 14, none, .mv, [.t 3]⟩,
      ⟨some 15, none, .callh 90, [.t 14]⟩,
      ⟨some 16, none, .callv, [.t 13, .t 15]⟩,
      ⟨some 17, none, .un .not, [.t 16]⟩])
    (.cond (.t 17) .ret .skip)))]

/-- (*tripwire/shelf.Shelf[int, tripwire/dict.entry]).All -/
def c89 : CFn := CFn.mk 1 [.t 2 false]
    (.seq (.reg [⟨some 1, none, .box, [.t 0]⟩,
      ⟨some 2, none, .mv, [.c .nilfn]⟩])
    (.seq (.reg [⟨some 3, none, .mkf 119, [.t 1]⟩,
      ⟨some 2, none, .mv, [.t 3]⟩])
    .ret)) []

/-- tripwire/dict.name -/
def c90 : CFn := CFn.mk 1 [.cell 2 true 2]
    (.seq (.reg [⟨some 2, none, .alloc [(.int .i64 0), (.int .i64 0)], []⟩])
    (.seq (.reg [⟨some 3, none, .mv, [.t 0]⟩,
      ⟨some 4, none, .bin .quo, [.t 3, .c (.int .i64 256)]⟩,
      ⟨some 5, none, .mv, [.t 0]⟩,
      ⟨some 6, none, .bin .rem, [.t 5, .c (.int .i64 256)]⟩,
      ⟨some 7, none, .build [(.int .i64 0), (.int .i64 0)] [(0, 1), (1, 1)], [.t 4, .t 6]⟩,
      ⟨none, none, .store 2, [.t 2, .t 7]⟩])
    .ret)) []

/-- (*tripwire/dict.Dict).own -/
def c91 : CFn := CFn.mk 2 [.cell 4 true 5, .t 5 false]
    (.seq (.reg [⟨some 3, none, .box, [.t 1]⟩,
      ⟨some 4, none, .alloc [(.int .i64 0), (.int .i64 0), (.int .i64 0), (.int .i64 0), (.lst none true 1 [])], []⟩,
      ⟨some 5, none, .mv, [.c (.int .i64 0)]⟩])
    (.seq (.seq (.reg [⟨some 8, none, .mv, [.t 0]⟩,
      ⟨some 9, none, .pnil false, [.t 8]⟩])
    (.cond (.t 9) (.seq (.reg [⟨some 10, none, .build [(.int .i64 0), (.int .i64 0), (.int .i64 0), (.int .i64 0), (.lst none true 1 [])] [], []⟩,
      ⟨none, none, .store 5, [.t 4, .t 10]⟩,
      ⟨some 5, none, .mv, [.c (.int .i64 1)]⟩])
    .ret) .skip))
    (.seq (.reg [⟨some 12, none, .mv, [.t 0]⟩,
      ⟨some 13, none, .load true 2, [.t 3]⟩,
      ⟨some 14, none, .call 59 false, [.t 12, .t 13]⟩,
      ⟨some 11, none, .mv, [.t 14]⟩,
      ⟨some 15, none, .ext 0, [.t 11]⟩,
      ⟨some 16, none, .ext 1, [.t 11]⟩,
      ⟨some 6, none, .alloc [(.int .i64 0), (.int .i64 0), (.int .i64 0), (.int .i64 0), (.lst none true 1 [])], []⟩,
      ⟨none, none, .store 5, [.t 6, .t 15]⟩,
      ⟨some 7, none, .mv, [.t 16]⟩])
    (.seq (.block 0 (.seq (.reg [⟨some 18, none, .mv, [.t 7]⟩,
      ⟨some 19, none, .un .not, [.t 18]⟩,
      ⟨some 17, none, .mv, [.t 19]⟩])
    (.cond (.t 17) (.seq (.reg [⟨some 20, none, .build [(.int .i64 0), (.int .i64 0), (.int .i64 0), (.int .i64 0), (.lst none true 1 [])] [], []⟩,
      ⟨none, none, .store 5, [.t 4, .t 20]⟩,
      ⟨some 5, none, .mv, [.c (.int .i64 7)]⟩])
    .ret) (.seq (.reg [⟨some 22, none, .fadr 0, [.t 6]⟩,
      ⟨some 23, none, .fadr 1, [.t 22]⟩,
      ⟨some 24, none, .load false 1, [.t 23]⟩,
      ⟨some 25, none, .bin .eql, [.t 24, .c (.int .i64 4)]⟩,
      ⟨some 21, none, .mv, [.t 25]⟩])
    (.cond (.t 21) (.seq (.reg [⟨some 26, none, .build [(.int .i64 0), (.int .i64 0), (.int .i64 0), (.int .i64 0), (.lst none true 1 [])] [], []⟩,
      ⟨none, none, .store 5, [.t 4, .t 26]⟩,
      ⟨some 5, none, .mv, [.c (.int .i64 12)]⟩])
    .ret) .skip)))))
    (.seq (.reg [⟨some 27, none, .load true 5, [.t 6]⟩,
      ⟨none, none, .store 5, [.t 4, .t 27]⟩,
      ⟨some 5, none, .mv, [.c (.int .i64 0)]⟩])
    .ret))))) []

/-- tripwire/value.Bytes -/
def c92 : CFn := CFn.mk 2 [.t 4 false, .t 5 false]
    (.seq (.reg [⟨some 2, none, .box, [.t 0]⟩,
      ⟨some 4, none, .nil false 1 5, []⟩,
      ⟨some 5, none, .mv, [.c (.int .i64 0)]⟩])
    (.seq (.block 0 (.seq (.reg [⟨some 7, none, .load true 4, [.t 2]⟩,
      ⟨some 8, none, .callh 56, [.t 7]⟩,
      ⟨some 9, none, .un .not, [.t 8]⟩,
      ⟨some 10, none, .mv, [.t 9]⟩,
      ⟨some 11, (some (10, false)), .load true 4, [.t 2]⟩,
      ⟨some 12, (some (10, false)), .callh 98, [.t 11]⟩,
      ⟨some 13, (some (10, false)), .un .not, [.t 12]⟩,
      ⟨some 14, none, .pick, [.t 10, .c (.bool true), .t 13]⟩,
      ⟨some 6, none, .mv, [.t 14]⟩])
    (.cond (.t 6) (.seq (.reg [⟨some 4, none, .nil false 1 5, []⟩,
      ⟨some 5, none, .mv, [.c (.int .i64 2)]⟩])
    .ret) (.seq (.reg [⟨some 16, none, .mv, [.t 1]⟩,
      ⟨some 17, none, .fadr 2, [.t 2]⟩,
      ⟨some 18, none, .load false 1, [.t 17]⟩,
      ⟨some 19, none, .bin .lss, [.t 16, .t 18]⟩,
      ⟨some 20, none, .mv, [.t 19]⟩,
      ⟨some 21, (some (20, false)), .mv, [.t 1]⟩,
      ⟨some 22, (some (20, false)), .fadr 3, [.t 2]⟩,
      ⟨some 23, (some (20, false)), .load false 1, [.t 22]⟩,
      ⟨some 24, (some (20, false)), .bin .gtr, [.t 21, .t 23]⟩,
      ⟨some 25, none, .pick, [.t 20, .c (.bool true), .t 24]⟩,
      ⟨some 15, none, .mv, [.t 25]⟩])
    (.cond (.t 15) (.seq (.reg [⟨some 4, none, .nil false 1 5, []⟩,
      ⟨some 5, none, .mv, [.c (.int .i64 14)]⟩])
    .ret) .skip)))))
    (.seq (.reg [⟨some 26, none, .fadr 0, [.t 2]⟩,
      ⟨some 27, none, .load false 1, [.t 26]⟩,
      ⟨some 28, none, .mv, [.t 1]⟩,
      ⟨some 29, none, .callh 102, [.t 27, .t 28]⟩,
      ⟨some 30, none, .ext 0, [.t 29]⟩,
      ⟨some 31, none, .ext 1, [.t 29]⟩,
      ⟨some 4, none, .mv, [.t 30]⟩,
      ⟨some 5, none, .mv, [.t 31]⟩])
    .ret))) []

/-- tripwire/tripwireref14.Write -/
def c93 : CFn := CFn.mk 3 [.cell 6 true 2, .t 7 false]
    (.seq (.reg [⟨some 3, none, .box, [.t 0]⟩,
      ⟨some 4, none, .box, [.t 1]⟩,
      ⟨some 6, none, .alloc [(.lst none true 7 []), (.int .i64 0)], []⟩,
      ⟨some 7, none, .mv, [.c (.int .i64 0)]⟩])
    (.seq (.reg [⟨some 10, none, .load true 2, [.t 3]⟩,
      ⟨some 11, none, .load true 2, [.t 4]⟩,
      ⟨some 12, none, .callh 33, [.t 10, .t 11]⟩,
      ⟨some 8, none, .mv, [.t 12]⟩])
    (.seq (.seq (.reg [⟨some 13, none, .mv, [.t 8]⟩,
      ⟨some 14, none, .bin .lss, [.t 13, .c (.int .i64 0)]⟩])
    (.cond (.t 14) (.seq (.draw 4 [0, 0, 0, 6, 15, 31] [⟨some 15, none, .load true 2, [.t 3]⟩,
      ⟨some 16, none, .load true 2, [.t 3]⟩,
      ⟨some 17, none, .load true 2, [.t 4]⟩,
      ⟨some 18, none, .callh 77, [.t 16, .t 17]⟩,
      ⟨none, none, .store 2, [.t 6, .t 15]⟩,
      ⟨some 7, none, .mv, [.t 18]⟩])
    .ret) .skip))
    (.seq (.reg [⟨some 19, none, .fadr 0, [.t 3]⟩,
      ⟨some 20, none, .load false 1, [.t 19]⟩,
      ⟨some 21, none, .mv, [.t 8]⟩,
      ⟨some 22, none, .ladr 7, [.t 20, .t 21]⟩,
      ⟨some 23, none, .fadr 2, [.t 22]⟩,
      ⟨some 24, none, .fadr 1, [.t 23]⟩,
      ⟨some 25, none, .load false 1, [.t 24]⟩,
      ⟨some 26, none, .callh 120, [.t 25]⟩,
      ⟨some 9, none, .mv, [.t 26]⟩])
    (.seq (.seq (.reg [⟨some 27, none, .mv, [.t 9]⟩,
      ⟨some 28, none, .bin .eql, [.t 27, .c (.int .i64 0)]⟩])
    (.cond (.t 28) (.reg [⟨some 29, none, .fadr 0, [.t 3]⟩,
      ⟨some 30, none, .load false 1, [.t 29]⟩,
      ⟨some 31, none, .mv, [.t 8]⟩,
      ⟨some 32, none, .ladr 7, [.t 30, .t 31]⟩,
      ⟨some 33, none, .fadr 2, [.t 32]⟩,
      ⟨some 34, none, .load true 4, [.t 33]⟩,
      ⟨some 35, none, .mv, [.t 2]⟩,
      ⟨some 36, none, .callh 27, [.t 34, .t 35]⟩,
      ⟨some 9, none, .mv, [.t 36]⟩]) .skip))
    (.seq (.seq (.reg [⟨some 37, none, .mv, [.t 9]⟩,
      ⟨some 38, none, .bin .neq, [.t 37, .c (.int .i64 0)]⟩])
    (.cond (.t 38) (.seq (.reg [⟨some 39, none, .load true 2, [.t 3]⟩,
      ⟨some 40, none, .mv, [.t 9]⟩,
      ⟨none, none, .store 2, [.t 6, .t 39]⟩,
      ⟨some 7, none, .mv, [.t 40]⟩])
    .ret) .skip))
    (.seq (.reg [⟨some 41, none, .load true 2, [.t 3]⟩,
      ⟨some 42, none, .mv, [.t 8]⟩,
      ⟨some 43, none, .mv, [.t 2]⟩,
      ⟨some 44, none, .callh 116, [.t 41, .t 42, .t 43]⟩,
      ⟨none, none, .store 2, [.t 6, .t 44]⟩,
      ⟨some 7, none, .mv, [.c (.int .i64 0)]⟩])
    .ret))))))) []

/-- tripwire/tripwireref14.Set -/
def c94 : CFn := CFn.mk 3 [.cell 6 true 2, .t 7 false]
    (.seq (.reg [⟨some 3, none, .box, [.t 0]⟩,
      ⟨some 4, none, .box, [.t 1]⟩,
      ⟨some 6, none, .alloc [(.lst none true 7 []), (.int .i64 0)], []⟩,
      ⟨some 7, none, .mv, [.c (.int .i64 0)]⟩])
    (.seq (.reg [⟨some 12, none, .load true 2, [.t 3]⟩,
      ⟨some 13, none, .load true 2, [.t 4]⟩,
      ⟨some 14, none, .callh 33, [.t 12, .t 13]⟩,
      ⟨some 8, none, .mv, [.t 14]⟩])
    (.seq (.seq (.reg [⟨some 15, none, .mv, [.t 8]⟩,
      ⟨some 16, none, .bin .lss, [.t 15, .c (.int .i64 0)]⟩])
    (.cond (.t 16) (.seq (.reg [⟨some 17, none, .load true 2, [.t 3]⟩,
      ⟨none, none, .store 2, [.t 6, .t 17]⟩,
      ⟨some 7, none, .mv, [.c (.int .i64 7)]⟩])
    .ret) .skip))
    (.seq (.reg [⟨some 18, none, .fadr 0, [.t 3]⟩,
      ⟨some 19, none, .load false 1, [.t 18]⟩,
      ⟨some 20, none, .mv, [.t 8]⟩,
      ⟨some 21, none, .ladr 7, [.t 19, .t 20]⟩,
      ⟨some 22, none, .fadr 2, [.t 21]⟩,
      ⟨some 23, none, .load true 4, [.t 22]⟩,
      ⟨some 9, none, .alloc [(.int .i64 0), (.int .i64 0), (.int .i64 0), (.int .i64 0)], []⟩,
      ⟨none, none, .store 4, [.t 9, .t 23]⟩])
    (.seq (.seq (.reg [⟨some 24, none, .fadr 1, [.t 9]⟩,
      ⟨some 25, none, .load false 1, [.t 24]⟩,
      ⟨some 26, none, .bin .eql, [.t 25, .c (.int .i64 4)]⟩])
    (.cond (.t 26) (.seq (.reg [⟨some 27, none, .load true 2, [.t 3]⟩,
      ⟨none, none, .store 2, [.t 6, .t 27]⟩,
      ⟨some 7, none, .mv, [.c (.int .i64 12)]⟩])
    .ret) .skip))
    (.seq (.seq (.reg [⟨some 28, none, .fadr 0, [.t 9]⟩,
      ⟨some 29, none, .load false 1, [.t 28]⟩,
      ⟨some 30, none, .bin .eql, [.t 29, .c (.int .i64 8)]⟩])
    (.cond (.t 30) (.seq (.reg [⟨some 31, none, .load true 2, [.t 3]⟩,
      ⟨none, none, .store 2, [.t 6, .t 31]⟩,
      ⟨some 7, none, .mv, [.c (.int .i64 2)]⟩])
    .ret) .skip))
    (.seq (.seq (.reg [⟨some 32, none, .mv, [.t 2]⟩,
      ⟨some 33, none, .fadr 2, [.t 9]⟩,
      ⟨some 34, none, .load false 1, [.t 33]⟩,
      ⟨some 35, none, .bin .lss, [.t 32, .t 34]⟩,
      ⟨some 36, none, .mv, [.t 35]⟩,
      ⟨some 37, (some (36, false)), .mv, [.t 2]⟩,
      ⟨some 38, (some (36, false)), .fadr 3, [.t 9]⟩,
      ⟨some 39, (some (36, false)), .load false 1, [.t 38]⟩,
      ⟨some 40, (some (36, false)), .bin .gtr, [.t 37, .t 39]⟩,
      ⟨some 41, none, .pick, [.t 36, .c (.bool true), .t 40]⟩])
    (.cond (.t 41) (.seq (.reg [⟨some 42, none, .load true 2, [.t 3]⟩,
      ⟨none, none, .store 2, [.t 6, .t 42]⟩,
      ⟨some 7, none, .mv, [.c (.int .i64 14)]⟩])
    .ret) .skip))
    (.seq (.reg [⟨some 44, none, .fadr 0, [.t 9]⟩,
      ⟨some 45, none, .load false 1, [.t 44]⟩,
      ⟨some 46, none, .mv, [.t 2]⟩,
      ⟨some 47, none, .callh 97, [.t 45, .t 46]⟩,
      ⟨some 43, none, .mv, [.t 47]⟩,
      ⟨some 48, none, .ext 0, [.t 43]⟩,
      ⟨some 49, none, .ext 1, [.t 43]⟩,
      ⟨some 10, none, .mv, [.t 48]⟩,
      ⟨some 11, none, .mv, [.t 49]⟩])
    (.seq (.reg [⟨some 50, none, .load true 2, [.t 3]⟩,
      ⟨some 51, none, .mv, [.t 8]⟩,
      ⟨some 52, none, .mv, [.t 10]⟩,
      ⟨some 53, none, .callh 116, [.t 50, .t 51, .t 52]⟩,
      ⟨none, none, .store 2, [.t 6, .t 53]⟩,
      ⟨some 7, none, .mv, [.c (.int .i64 0)]⟩])
    .ret))))))))) []

/-- (*tripwire/dict.Dict).Spec -/
def c95 : CFn := CFn.mk 2 [.cell 4 true 4, .t 5 false]
    (.seq (.reg [⟨some 3, none, .box, [.t 1]⟩,
      ⟨some 4, none, .alloc [(.int .i64 0), (.int .i64 0), (.int .i64 0), (.int .i64 0)], []⟩,
      ⟨some 5, none, .mv, [.c (.bool false)]⟩])
    (.seq (.reg [⟨some 9, none, .mv, [.t 0]⟩,
      ⟨some 10, none, .load true 2, [.t 3]⟩,
      ⟨some 11, none, .call 59 false, [.t 9, .t 10]⟩,
      ⟨some 8, none, .mv, [.t 11]⟩,
      ⟨some 12, none, .ext 0, [.t 8]⟩,
      ⟨some 13, none, .ext 1, [.t 8]⟩,
      ⟨some 6, none, .alloc [(.int .i64 0), (.int .i64 0), (.int .i64 0), (.int .i64 0), (.lst none true 1 [])], []⟩,
      ⟨none, none, .store 5, [.t 6, .t 12]⟩,
      ⟨some 7, none, .mv, [.t 13]⟩])
    (.seq (.reg [⟨some 14, none, .fadr 0, [.t 6]⟩,
      ⟨some 15, none, .load true 4, [.t 14]⟩,
      ⟨some 16, none, .mv, [.t 7]⟩,
      ⟨none, none, .store 4, [.t 4, .t 15]⟩,
      ⟨some 5, none, .mv, [.t 16]⟩])
    .ret))) []

/-- tripwire/tripwireref02.Put -/
def c97 : CFn := CFn.mk 2 [.t 4 false, .t 5 false]
    (.seq (.reg [⟨some 4, none, .nil false 1 5, []⟩,
      ⟨some 5, none, .mv, [.c (.int .i64 0)]⟩])
    (.seq (.reg [⟨some 12, none, .mv, [.t 0]⟩,
      ⟨some 13, none, .callh 74, [.t 12]⟩,
      ⟨some 11, none, .mv, [.t 13]⟩,
      ⟨some 14, none, .ext 0, [.t 11]⟩,
      ⟨some 15, none, .ext 1, [.t 11]⟩,
      ⟨some 16, none, .ext 2, [.t 11]⟩,
      ⟨some 6, none, .mv, [.t 14]⟩,
      ⟨some 7, none, .mv, [.t 15]⟩,
      ⟨some 8, none, .mv, [.t 16]⟩])
    (.seq (.seq (.reg [⟨some 17, none, .mv, [.t 6]⟩,
      ⟨some 18, none, .bin .eql, [.t 17, .c (.int .i64 0)]⟩,
      ⟨some 19, none, .mv, [.t 18]⟩,
      ⟨some 20, (some (19, false)), .mv, [.t 1]⟩,
      ⟨some 21, (some (19, false)), .mv, [.t 7]⟩,
      ⟨some 22, (some (19, false)), .bin .lss, [.t 20, .t 21]⟩,
      ⟨some 23, none, .pick, [.t 19, .c (.bool true), .t 22]⟩,
      ⟨some 24, none, .mv, [.t 23]⟩,
      ⟨some 25, (some (24, false)), .mv, [.t 1]⟩,
      ⟨some 26, (some (24, false)), .mv, [.t 8]⟩,
      ⟨some 27, (some (24, false)), .bin .gtr, [.t 25, .t 26]⟩,
      ⟨some 28, none, .pick, [.t 24, .c (.bool true), .t 27]⟩])
    (.cond (.t 28) (.seq (.reg [⟨some 4, none, .nil false 1 5, []⟩,
      ⟨some 5, none, .mv, [.c (.int .i64 2)]⟩])
    .ret) .skip))
    (.seq (.seq (.reg [⟨some 29, none, .mv, [.t 1]⟩,
      ⟨some 30, none, .bin .lss, [.t 29, .c (.int .i64 0)]⟩])
    (.cond (.t 30) (.reg [⟨some 31, none, .mv, [.t 1]⟩,
      ⟨some 32, none, .mv, [.t 6]⟩,
      ⟨some 33, none, .callh 112, [.t 32]⟩,
      ⟨some 34, none, .bin .add, [.t 31, .t 33]⟩,
      ⟨some 1, none, .mv, [.t 34]⟩]) .skip))
    (.seq (.reg [⟨some 35, none, .bsl true 1 5, []⟩,
      ⟨some 9, none, .mv, [.t 35]⟩])
    (.seq (.seq (.reg [⟨some 10, none, .mv, [.c (.int .i64 0)]⟩])
    (.block 0 (.loop [1, 6, 9, 10] [] [35] [] (.seq (.seq (.reg [⟨some 36, none, .mv, [.t 10]⟩,
      ⟨some 37, none, .mv, [.t 6]⟩,
      ⟨some 38, none, .bin .lss, [.t 36, .t 37]⟩])
    (.cond (.t 38) .skip (.exit 0)))
    (.seq (.block 1 (.seq (.reg [⟨some 41, none, .mv, [.t 9]⟩,
      ⟨some 42, none, .mv, [.t 1]⟩,
      ⟨some 43, none, .bin .rem, [.t 42, .c (.int .i64 256)]⟩,
      ⟨some 44, none, .i2i .u8, [.t 43]⟩,
      ⟨some 45, none, .bsl false 1 5, [.t 44]⟩,
      ⟨some 46, none, .app false 1 1 5, [.t 41, .t 45]⟩,
      ⟨some 9, none, .mv, [.t 46]⟩])
    (.reg [⟨some 47, none, .mv, [.t 1]⟩,
      ⟨some 48, none, .bin .quo, [.t 47, .c (.int .i64 256)]⟩,
      ⟨some 1, none, .mv, [.t 48]⟩])))
    (.reg [⟨some 39, none, .mv, [.t 10]⟩,
      ⟨some 40, none, .bin .add, [.t 39, .c (.int .i64 1)]⟩,
      ⟨some 10, none, .mv, [.t 40]⟩]))))))
    (.seq (.reg [⟨some 49, none, .mv, [.t 9]⟩,
      ⟨some 4, none, .mv, [.t 49]⟩,
      ⟨some 5, none, .mv, [.c (.int .i64 0)]⟩])
    .ret))))))) []

/-- tripwire/value.numbers -/
def c98 : CFn := CFn.mk 1 [.t 2 false]
    (.seq (.reg [⟨some 1, none, .box, [.t 0]⟩,
      ⟨some 2, none, .mv, [.c (.bool false)]⟩])
    (.seq (.reg [⟨some 3, none, .fadr 0, [.t 1]⟩,
      ⟨some 4, none, .load false 1, [.t 3]⟩,
      ⟨some 5, none, .callh 100, [.t 4]⟩,
      ⟨some 6, none, .bin .gtr, [.t 5, .c (.int .i64 0)]⟩,
      ⟨some 2, none, .mv, [.t 6]⟩])
    .ret)) []

/-- tripwire/value.length -/
def c99 : CFn := CFn.mk 3 [.t 6 false]
    (.seq (.reg [⟨some 6, none, .mv, [.c (.int .i64 0)]⟩])
    (.seq (.block 0 (.seq (.reg [⟨some 8, none, .mv, [.t 0]⟩,
      ⟨some 9, none, .mv, [.t 1]⟩,
      ⟨some 10, none, .bin .lss, [.t 8, .t 9]⟩,
      ⟨some 7, none, .mv, [.t 10]⟩])
    (.cond (.t 7) (.seq (.reg [⟨some 6, none, .mv, [.c (.int .i64 101122067)]⟩])
    .ret) (.seq (.reg [⟨some 12, none, .mv, [.t 0]⟩,
      ⟨some 13, none, .mv, [.t 2]⟩,
      ⟨some 14, none, .bin .gtr, [.t 12, .t 13]⟩,
      ⟨some 11, none, .mv, [.t 14]⟩])
    (.cond (.t 11) (.seq (.reg [⟨some 6, none, .mv, [.c (.int .i64 101122066)]⟩])
    .ret) .skip)))))
    (.seq (.reg [⟨some 6, none, .mv, [.c (.int .i64 0)]⟩])
    .ret))) []

/-- tripwire/word.Size -/
def c100 : CFn := CFn.mk 1 [.t 2 false]
    (.seq (.reg [⟨some 2, none, .mv, [.c (.int .i64 0)]⟩])
    (.seq (.seq (.reg [⟨some 3, none, .mv, [.t 0]⟩])
    (.block 0 (.seq (.seq (.reg [⟨some 5, none, .bin .eql, [.t 3, .c (.int .i64 1)]⟩,
      ⟨some 4, none, .mv, [.t 5]⟩])
    (.cond (.t 4) .skip (.seq (.reg [⟨some 6, none, .bin .eql, [.t 3, .c (.int .i64 2)]⟩,
      ⟨some 4, none, .mv, [.t 6]⟩])
    (.cond (.t 4) .skip (.reg [⟨some 7, none, .bin .eql, [.t 3, .c (.int .i64 5)]⟩,
      ⟨some 4, none, .mv, [.t 7]⟩])))))
    (.cond (.t 4) (.seq (.reg [⟨some 2, none, .mv, [.c (.int .i64 1)]⟩])
    .ret) (.seq (.seq (.reg [⟨some 9, none, .bin .eql, [.t 3, .c (.int .i64 3)]⟩,
      ⟨some 8, none, .mv, [.t 9]⟩])
    (.cond (.t 8) .skip (.reg [⟨some 10, none, .bin .eql, [.t 3, .c (.int .i64 6)]⟩,
      ⟨some 8, none, .mv, [.t 10]⟩])))
    (.cond (.t 8) (.seq (.reg [⟨some 2, none, .mv, [.c (.int .i64 2)]⟩])
    .ret) (.seq (.seq (.reg [⟨some 12, none, .bin .eql, [.t 3, .c (.int .i64 4)]⟩,
      ⟨some 11, none, .mv, [.t 12]⟩])
    (.cond (.t 11) .skip (.reg [⟨some 13, none, .bin .eql, [.t 3, .c (.int .i64 7)]⟩,
      ⟨some 11, none, .mv, [.t 13]⟩])))
    (.cond (.t 11) (.seq (.reg [⟨some 2, none, .mv, [.c (.int .i64 4)]⟩])
    .ret) .skip))))))))
    (.seq (.reg [⟨some 2, none, .mv, [.c (.int .i64 0)]⟩])
    .ret))) []

/-- tripwire/word.Get -/
def c101 : CFn := CFn.mk 2 [.t 4 false, .t 5 false]
    (.seq (.reg [⟨some 4, none, .mv, [.c (.int .i64 0)]⟩,
      ⟨some 5, none, .mv, [.c (.int .i64 0)]⟩])
    (.seq (.seq (.reg [⟨some 10, none, .mv, [.t 0]⟩,
      ⟨some 11, none, .callh 100, [.t 10]⟩,
      ⟨some 6, none, .mv, [.t 11]⟩])
    (.block 0 (.seq (.reg [⟨some 13, none, .mv, [.t 6]⟩,
      ⟨some 14, none, .bin .eql, [.t 13, .c (.int .i64 0)]⟩,
      ⟨some 12, none, .mv, [.t 14]⟩])
    (.cond (.t 12) (.seq (.reg [⟨some 4, none, .mv, [.c (.int .i64 0)]⟩,
      ⟨some 5, none, .mv, [.c (.int .i64 2)]⟩])
    .ret) (.seq (.reg [⟨some 16, none, .mv, [.t 1]⟩,
      ⟨some 17, none, .len, [.t 16]⟩,
      ⟨some 18, none, .mv, [.t 6]⟩,
      ⟨some 19, none, .bin .neq, [.t 17, .t 18]⟩,
      ⟨some 15, none, .mv, [.t 19]⟩])
    (.cond (.t 15) (.seq (.reg [⟨some 4, none, .mv, [.c (.int .i64 0)]⟩,
      ⟨some 5, none, .mv, [.c (.int .i64 11)]⟩])
    .ret) .skip))))))
    (.seq (.reg [⟨some 7, none, .mv, [.c (.int .i64 0)]⟩])
    (.seq (.seq (.reg [⟨some 20, none, .mv, [.t 1]⟩,
      ⟨some 21, none, .len, [.t 20]⟩,
      ⟨some 22, none, .mv, [.c (.int .i64 0)]⟩])
    (.block 1 (.loop [0, 1, 7, 20, 21, 22] [] [] [] (.seq (.reg [⟨some 23, none, .bin .lss, [.t 22, .t 21]⟩])
    (.seq (.cond (.t 23) .skip (.exit 1))
    (.seq (.block 2 (.seq (.reg [⟨some 24, none, .mv, [.t 22]⟩,
      ⟨some 25, none, .ladr 1, [.t 20, .t 22]⟩,
      ⟨some 26, none, .load false 1, [.t 25]⟩,
      ⟨some 8, none, .mv, [.t 24]⟩,
      ⟨some 9, none, .mv, [.t 26]⟩])
    (.reg [⟨some 27, none, .mv, [.t 7]⟩,
      ⟨some 28, none, .mv, [.t 9]⟩,
      ⟨some 29, none, .i2i .i64, [.t 28]⟩,
      ⟨some 30, none, .mv, [.t 8]⟩,
      ⟨some 31, none, .bin .mul, [.c (.int .i64 8), .t 30]⟩,
      ⟨some 32, none, .bin .shl, [.t 29, .t 31]⟩,
      ⟨some 33, none, .bin .or, [.t 27, .t 32]⟩,
      ⟨some 7, none, .mv, [.t 33]⟩])))
    (.reg [⟨some 34, none, .bin .add, [.t 22, .c (.int .i64 1)]⟩,
      ⟨some 22, none, .mv, [.t 34]⟩])))))))
    (.seq (.seq (.reg [⟨some 35, none, .mv, [.t 0]⟩,
      ⟨some 36, none, .callh 121, [.t 35]⟩,
      ⟨some 37, none, .mv, [.t 36]⟩,
      ⟨some 38, (some (37, true)), .mv, [.t 7]⟩,
      ⟨some 39, (some (37, true)), .mv, [.t 0]⟩,
      ⟨some 40, (some (37, true)), .callh 108, [.t 39]⟩,
      ⟨some 41, (some (37, true)), .bin .gtr, [.t 38, .t 40]⟩,
      ⟨some 42, none, .pick, [.t 37, .t 41, .c (.bool false)]⟩])
    (.cond (.t 42) (.reg [⟨some 43, none, .mv, [.t 7]⟩,
      ⟨some 44, none, .mv, [.t 1]⟩,
      ⟨some 45, none, .len, [.t 44]⟩,
      ⟨some 46, none, .bin .mul, [.c (.int .i64 8), .t 45]⟩,
      ⟨some 47, none, .bin .shl, [.c (.int .i64 1), .t 46]⟩,
      ⟨some 48, none, .bin .sub, [.t 43, .t 47]⟩,
      ⟨some 7, none, .mv, [.t 48]⟩]) .skip))
    (.seq (.seq (.reg [⟨some 49, none, .mv, [.t 0]⟩,
      ⟨some 50, none, .mv, [.t 7]⟩,
      ⟨some 51, none, .callh 69, [.t 49, .t 50]⟩,
      ⟨some 52, none, .un .not, [.t 51]⟩])
    (.cond (.t 52) (.seq (.reg [⟨some 4, none, .mv, [.c (.int .i64 0)]⟩,
      ⟨some 5, none, .mv, [.c (.int .i64 4)]⟩])
    .ret) .skip))
    (.seq (.reg [⟨some 53, none, .mv, [.t 7]⟩,
      ⟨some 4, none, .mv, [.t 53]⟩,
      ⟨some 5, none, .mv, [.c (.int .i64 0)]⟩])
    .ret))))))) []

/-- tripwire/word.Put -/
def c102 : CFn := CFn.mk 2 [.t 4 false, .t 5 false]
    (.seq (.reg [⟨some 4, none, .nil false 1 5, []⟩,
      ⟨some 5, none, .mv, [.c (.int .i64 0)]⟩])
    (.seq (.seq (.reg [⟨some 8, none, .mv, [.t 0]⟩,
      ⟨some 9, none, .mv, [.t 1]⟩,
      ⟨some 10, none, .callh 69, [.t 8, .t 9]⟩,
      ⟨some 11, none, .un .not, [.t 10]⟩])
    (.cond (.t 11) (.seq (.reg [⟨some 4, none, .nil false 1 5, []⟩,
      ⟨some 5, none, .mv, [.c (.int .i64 2)]⟩])
    .ret) .skip))
    (.seq (.reg [⟨some 12, none, .mv, [.t 0]⟩,
      ⟨some 13, none, .callh 100, [.t 12]⟩,
      ⟨some 14, none, .mks 1 1 [(.int .u8 0)], [.t 13, .t 13]⟩,
      ⟨some 6, none, .mv, [.t 14]⟩])
    (.seq (.seq (.reg [⟨some 15, none, .mv, [.t 6]⟩,
      ⟨some 16, none, .len, [.t 15]⟩,
      ⟨some 17, none, .mv, [.c (.int .i64 0)]⟩])
    (.block 0 (.loop [1, 6, 16, 17] [] [] [6] (.seq (.reg [⟨some 18, none, .bin .lss, [.t 17, .t 16]⟩])
    (.seq (.cond (.t 18) .skip (.exit 0))
    (.seq (.block 1 (.seq (.reg [⟨some 19, none, .mv, [.t 17]⟩,
      ⟨some 7, none, .mv, [.t 19]⟩])
    (.reg [⟨some 20, none, .mv, [.t 6]⟩,
      ⟨some 21, none, .mv, [.t 7]⟩,
      ⟨some 22, none, .mv, [.t 1]⟩,
      ⟨some 23, none, .mv, [.t 7]⟩,
      ⟨some 24, none, .bin .mul, [.c (.int .i64 8), .t 23]⟩,
      ⟨some 25, none, .bin .shr, [.t 22, .t 24]⟩,
      ⟨some 26, none, .i2i .u8, [.t 25]⟩,
      ⟨some 27, none, .ladr 1, [.t 20, .t 21]⟩,
      ⟨none, none, .store 1, [.t 27, .t 26]⟩])))
    (.reg [⟨some 28, none, .bin .add, [.t 17, .c (.int .i64 1)]⟩,
      ⟨some 17, none, .mv, [.t 28]⟩])))))))
    (.seq (.reg [⟨some 29, none, .mv, [.t 6]⟩,
      ⟨some 4, none, .mv, [.t 29]⟩,
      ⟨some 5, none, .mv, [.c (.int .i64 0)]⟩])
    .ret))))) []

/-- (*tripwire/shelf.Shelf[int, tripwire/dict.entry]).Get -/
def c103 : CFn := CFn.mk 2 [.cell 4 true 5, .t 5 false]
    (.seq (.reg [⟨some 4, none, .alloc [(.int .i64 0), (.int .i64 0), (.int .i64 0), (.int .i64 0), (.lst none true 1 [])], []⟩,
      ⟨some 5, none, .mv, [.c (.bool false)]⟩])
    (.seq (.reg [⟨some 10, none, .mv, [.t 0]⟩,
      ⟨some 11, none, .mv, [.t 1]⟩,
      ⟨some 12, none, .call 104 false, [.t 10, .t 11]⟩,
      ⟨some 9, none, .mv, [.t 12]⟩,
      ⟨some 13, none, .ext 0, [.t 9]⟩,
      ⟨some 14, none, .ext 1, [.t 9]⟩,
      ⟨some 6, none, .mv, [.t 13]⟩,
      ⟨some 7, none, .mv, [.t 14]⟩])
    (.seq (.seq (.reg [⟨some 15, none, .mv, [.t 7]⟩,
      ⟨some 16, none, .un .not, [.t 15]⟩])
    (.cond (.t 16) (.seq (.reg [⟨some 8, none, .alloc [(.int .i64 0), (.int .i64 0), (.int .i64 0), (.int .i64 0), (.lst none true 1 [])], []⟩])
    (.seq (.reg [⟨some 17, none, .load true 5, [.t 8]⟩,
      ⟨none, none, .store 5, [.t 4, .t 17]⟩,
      ⟨some 5, none, .mv, [.c (.bool false)]⟩])
    .ret)) .skip))
    (.seq (.reg [⟨some 18, none, .mv, [.t 0]⟩,
      ⟨some 19, none, .nilc, [.t 18]⟩,
      ⟨some 20, none, .fadr 0, [.t 19]⟩,
      ⟨some 21, none, .load false 1, [.t 20]⟩,
      ⟨some 22, none, .mv, [.t 6]⟩,
      ⟨some 23, none, .ladr 6, [.t 21, .t 22]⟩,
      ⟨some 24, none, .fadr 1, [.t 23]⟩,
      ⟨some 25, none, .load true 5, [.t 24]⟩,
      ⟨none, none, .store 5, [.t 4, .t 25]⟩,
      ⟨some 5, none, .mv, [.c (.bool true)]⟩])
    .ret)))) []

/-- (*tripwire/shelf.Shelf[int, tripwire/dict.entry]).Place -/
def c104 : CFn := CFn.mk 2 [.t 4 false, .t 5 false]
    (.seq (.reg [⟨some 4, none, .mv, [.c (.int .i64 0)]⟩,
      ⟨some 5, none, .mv, [.c (.bool false)]⟩])
    (.seq (.seq (.reg [⟨some 9, none, .mv, [.t 0]⟩,
      ⟨some 10, none, .pnil false, [.t 9]⟩,
      ⟨some 11, none, .mv, [.t 10]⟩,
      ⟨some 12, (some (11, false)), .mv, [.t 1]⟩,
      ⟨some 13, (some (11, false)), .mv, [.t 1]⟩,
      ⟨some 14, (some (11, false)), .bin .neq, [.t 12, .t 13]⟩,
      ⟨some 15, none, .pick, [.t 11, .c (.bool true), .t 14]⟩])
    (.cond (.t 15) (.seq (.reg [⟨some 4, none, .mv, [.c (.int .i64 0)]⟩,
      ⟨some 5, none, .mv, [.c (.bool false)]⟩])
    .ret) .skip))
    (.seq (.draw 6 [0, 1, 3, 7, 15, 0, 63] [⟨some 16, none, .mv, [.t 0]⟩,
      ⟨some 17, none, .nilc, [.t 16]⟩,
      ⟨some 18, none, .fadr 0, [.t 17]⟩,
      ⟨some 19, none, .load false 1, [.t 18]⟩,
      ⟨some 20, none, .len, [.t 19]⟩,
      ⟨some 6, none, .mv, [.c (.int .i64 0)]⟩,
      ⟨some 7, none, .mv, [.t 20]⟩])
    (.seq (.block 0 (.loop [0, 1, 6, 7] [] [] [] (.seq (.seq (.reg [⟨some 21, none, .mv, [.t 6]⟩,
      ⟨some 22, none, .mv, [.t 7]⟩,
      ⟨some 23, none, .bin .lss, [.t 21, .t 22]⟩])
    (.cond (.t 23) .skip (.exit 0)))
    (.block 1 (.seq (.reg [⟨some 24, none, .mv, [.t 6]⟩,
      ⟨some 25, none, .mv, [.t 7]⟩,
      ⟨some 26, none, .bin .add, [.t 24, .t 25]⟩,
      ⟨some 27, none, .bin .quo, [.t 26, .c (.int .i64 2)]⟩,
      ⟨some 8, none, .mv, [.t 27]⟩])
    (.seq (.reg [⟨some 28, none, .mv, [.t 0]⟩,
      ⟨some 29, none, .nilc, [.t 28]⟩,
      ⟨some 30, none, .fadr 0, [.t 29]⟩,
      ⟨some 31, none, .load false 1, [.t 30]⟩,
      ⟨some 32, none, .mv, [.t 8]⟩,
      ⟨some 33, none, .ladr 6, [.t 31, .t 32]⟩,
      ⟨some 34, none, .fadr 0, [.t 33]⟩,
      ⟨some 35, none, .load false 1, [.t 34]⟩,
      ⟨some 36, none, .mv, [.t 1]⟩,
      ⟨some 37, none, .bin .lss, [.t 35, .t 36]⟩])
    (.cond (.t 37) (.reg [⟨some 38, none, .mv, [.t 8]⟩,
      ⟨some 39, none, .bin .add, [.t 38, .c (.int .i64 1)]⟩,
      ⟨some 6, none, .mv, [.t 39]⟩]) (.reg [⟨some 40, none, .mv, [.t 8]⟩,
      ⟨some 7, none, .mv, [.t 40]⟩]))))))))
    (.seq (.draw 21 [0, 0, 0, 4, 12, 28, 60, 126, 254, 510, 1022, 2046, 4094, 510, 16382, 32766, 65534, 510, 262142, 524286, 511, 2097151] [⟨some 41, none, .mv, [.t 6]⟩,
      ⟨some 42, none, .mv, [.t 6]⟩,
      ⟨some 43, none, .mv, [.t 0]⟩,
      ⟨some 44, none, .nilc, [.t 43]⟩,
      ⟨some 45, none, .fadr 0, [.t 44]⟩,
      ⟨some 46, none, .load false 1, [.t 45]⟩,
      ⟨some 47, none, .len, [.t 46]⟩,
      ⟨some 48, none, .bin .lss, [.t 42, .t 47]⟩,
      ⟨some 49, none, .mv, [.t 48]⟩,
      ⟨some 50, (some (49, true)), .mv, [.t 0]⟩,
      ⟨some 51, (some (49, true)), .nilc, [.t 50]⟩,
      ⟨some 52, (some (49, true)), .fadr 0, [.t 51]⟩,
      ⟨some 53, (some (49, true)), .load false 1, [.t 52]⟩,
      ⟨some 54, (some (49, true)), .mv, [.t 6]⟩,
      ⟨some 55, (some (49, true)), .ladr 6, [.t 53, .t 54]⟩,
      ⟨some 56, (some (49, true)), .fadr 0, [.t 55]⟩,
      ⟨some 57, (some (49, true)), .load false 1, [.t 56]⟩,
      ⟨some 58, (some (49, true)), .mv, [.t 1]⟩,
      ⟨some 59, (some (49, true)), .bin .eql, [.t 57, .t 58]⟩,
      ⟨some 60, none, .pick, [.t 49, .t 59, .c (.bool false)]⟩,
      ⟨some 4, none, .mv, [.t 41]⟩,
      ⟨some 5, none, .mv, [.t 60]⟩])
    .ret))))) []

/-- tripwire/tripwireref15.name -/
def c106 : CFn := CFn.mk 2 [.cell 4 true 2]
    (.seq (.reg [⟨some 4, none, .alloc [(.int .i64 0), (.int .i64 0)], []⟩])
    (.seq (.reg [⟨some 5, none, .mv, [.t 0]⟩,
      ⟨some 6, none, .mv, [.t 1]⟩,
      ⟨some 7, none, .build [(.int .i64 0), (.int .i64 0)] [(0, 1), (1, 1)], [.t 5, .t 6]⟩,
      ⟨none, none, .store 2, [.t 4, .t 7]⟩])
    .ret)) []

/-- tripwire/area.add -/
def c107 : CFn := CFn.mk 3 [.t 6 false]
    (.seq (.reg [⟨some 5, none, .box, [.t 2]⟩,
      ⟨some 6, none, .mv, [.c (.int .i64 0)]⟩])
    (.seq (.reg [⟨some 10, none, .fadr 1, [.t 5]⟩,
      ⟨some 11, none, .load false 1, [.t 10]⟩,
      ⟨some 12, none, .fadr 2, [.t 5]⟩,
      ⟨some 13, none, .load false 1, [.t 12]⟩,
      ⟨some 14, none, .fadr 3, [.t 5]⟩,
      ⟨some 15, none, .load false 1, [.t 14]⟩,
      ⟨some 16, none, .build [(.int .i64 0), (.int .i64 0), (.int .i64 0), (.int .i64 0)] [(0, 1), (1, 1), (2, 1), (3, 1)], [.t 11, .c (.int .i64 3), .t 13, .t 15]⟩,
      ⟨some 7, none, .alloc [(.int .i64 0), (.int .i64 0), (.int .i64 0), (.int .i64 0)], []⟩,
      ⟨none, none, .store 4, [.t 7, .t 16]⟩])
    (.seq (.seq (.reg [⟨some 17, none, .fadr 4, [.t 5]⟩,
      ⟨some 18, none, .load false 1, [.t 17]⟩])
    (.cond (.t 18) (.reg [⟨some 19, none, .fadr 1, [.t 7]⟩,
      ⟨none, none, .store 1, [.t 19, .c (.int .i64 4)]⟩]) .skip))
    (.seq (.reg [⟨some 21, none, .fadr 1, [.t 5]⟩,
      ⟨some 22, none, .load false 1, [.t 21]⟩,
      ⟨some 23, none, .fadr 2, [.t 5]⟩,
      ⟨some 24, none, .load false 1, [.t 23]⟩,
      ⟨some 25, none, .callh 102, [.t 22, .t 24]⟩,
      ⟨some 20, none, .mv, [.t 25]⟩,
      ⟨some 26, none, .ext 0, [.t 20]⟩,
      ⟨some 27, none, .ext 1, [.t 20]⟩,
      ⟨some 8, none, .mv, [.t 26]⟩,
      ⟨some 9, none, .mv, [.t 27]⟩])
    (.seq (.seq (.reg [⟨some 28, none, .mv, [.t 9]⟩,
      ⟨some 29, none, .bin .neq, [.t 28, .c (.int .i64 0)]⟩])
    (.cond (.t 29) (.seq (.reg [⟨some 30, none, .mv, [.t 9]⟩,
      ⟨some 6, none, .mv, [.t 30]⟩])
    .ret) .skip))
    (.seq (.reg [⟨some 31, none, .mv, [.t 0]⟩,
      ⟨some 32, none, .mv, [.t 1]⟩,
      ⟨some 33, none, .fadr 0, [.t 5]⟩,
      ⟨some 34, none, .load false 1, [.t 33]⟩,
      ⟨some 35, none, .build [(.int .i64 0), (.int .i64 0)] [(0, 1), (1, 1)], [.t 32, .t 34]⟩,
      ⟨some 36, none, .load true 4, [.t 7]⟩,
      ⟨some 37, none, .mv, [.t 8]⟩,
      ⟨some 38, none, .call 13 false, [.t 31, .t 35, .t 36, .t 37]⟩,
      ⟨some 6, none, .mv, [.t 38]⟩])
    .ret)))))) []

/-- tripwire/word.High -/
def c108 : CFn := CFn.mk 1 [.t 2 false]
    (.seq (.reg [⟨some 2, none, .mv, [.c (.int .i64 0)]⟩])
    (.seq (.block 0 (.seq (.reg [⟨some 4, none, .mv, [.t 0]⟩,
      ⟨some 5, none, .bin .eql, [.t 4, .c (.int .i64 1)]⟩,
      ⟨some 3, none, .mv, [.t 5]⟩])
    (.cond (.t 3) (.seq (.reg [⟨some 2, none, .mv, [.c (.int .i64 1)]⟩])
    .ret) (.seq (.reg [⟨some 7, none, .mv, [.t 0]⟩,
      ⟨some 8, none, .callh 121, [.t 7]⟩,
      ⟨some 6, none, .mv, [.t 8]⟩])
    (.cond (.t 6) (.seq (.reg [⟨some 9, none, .mv, [.t 0]⟩,
      ⟨some 10, none, .callh 100, [.t 9]⟩,
      ⟨some 11, none, .bin .mul, [.c (.int .i64 8), .t 10]⟩,
      ⟨some 12, none, .bin .sub, [.t 11, .c (.int .i64 1)]⟩,
      ⟨some 13, none, .bin .shl, [.c (.int .i64 1), .t 12]⟩,
      ⟨some 14, none, .bin .sub, [.t 13, .c (.int .i64 1)]⟩,
      ⟨some 2, none, .mv, [.t 14]⟩])
    .ret) .skip)))))
    (.seq (.reg [⟨some 15, none, .mv, [.t 0]⟩,
      ⟨some 16, none, .callh 100, [.t 15]⟩,
      ⟨some 17, none, .bin .mul, [.c (.int .i64 8), .t 16]⟩,
      ⟨some 18, none, .bin .shl, [.c (.int .i64 1), .t 17]⟩,
      ⟨some 19, none, .bin .sub, [.t 18, .c (.int .i64 1)]⟩,
      ⟨some 2, none, .mv, [.t 19]⟩])
    .ret))) []

/-- tripwire/word.Low -/
def c109 : CFn := CFn.mk 1 [.t 2 false]
    (.seq (.reg [⟨some 2, none, .mv, [.c (.int .i64 0)]⟩])
    (.seq (.seq (.reg [⟨some 3, none, .mv, [.t 0]⟩,
      ⟨some 4, none, .callh 121, [.t 3]⟩,
      ⟨some 5, none, .un .not, [.t 4]⟩])
    (.cond (.t 5) (.seq (.reg [⟨some 2, none, .mv, [.c (.int .i64 0)]⟩])
    .ret) .skip))
    (.seq (.reg [⟨some 6, none, .mv, [.t 0]⟩,
      ⟨some 7, none, .callh 100, [.t 6]⟩,
      ⟨some 8, none, .bin .mul, [.c (.int .i64 8), .t 7]⟩,
      ⟨some 9, none, .bin .sub, [.t 8, .c (.int .i64 1)]⟩,
      ⟨some 10, none, .bin .shl, [.c (.int .i64 (-1)), .t 9]⟩,
      ⟨some 2, none, .mv, [.t 10]⟩])
    .ret))) []

/-- slices.Clone[[]tripwire/shelf.row[int, tripwire/dict.entry],tripwire/shelf.row[int, tripwire/dict.entry]] -/
def c110 : CFn := CFn.mk 1 [.t 2 false]
    (.seq (.reg [⟨some 2, none, .nil false 6 166, []⟩])
    (.seq (.seq (.reg [⟨some 3, none, .mv, [.t 0]⟩,
      ⟨some 4, none, .lnil false, [.t 3]⟩])
    (.cond (.t 4) (.seq (.reg [⟨some 2, none, .nil false 6 166, []⟩])
    .ret) .skip))
    (.seq (.reg [⟨some 5, none, .bsl true 1000006 166, []⟩,
      ⟨some 6, none, .mv, [.t 0]⟩,
      ⟨some 7, none, .appr 6 64 166, [.t 5, .t 6]⟩,
      ⟨some 2, none, .mv, [.t 7]⟩])
    .ret))) []

/-- bytes.Equal -/
def c111 : CFn := CFn.mk 2 [.t 4 false]
    (.seq (.reg [⟨some 4, none, .mv, [.c (.bool false)]⟩])
    (.seq (.reg [⟨some 5, none, .mv, [.t 0]⟩,
      ⟨some 6, none, .b2s, [.t 5]⟩,
      ⟨some 7, none, .mv, [.t 1]⟩,
      ⟨some 8, none, .b2s, [.t 7]⟩,
      ⟨some 9, none, .bin .eql, [.t 6, .t 8]⟩,
      ⟨some 4, none, .mv, [.t 9]⟩])
    .ret)) []

/-- tripwire/tripwireref02.power -/
def c112 : CFn := CFn.mk 1 [.t 2 false]
    (.seq (.reg [⟨some 2, none, .mv, [.c (.int .i64 0)]⟩])
    (.seq (.reg [⟨some 3, none, .mv, [.c (.int .i64 1)]⟩])
    (.seq (.seq (.reg [⟨some 4, none, .mv, [.c (.int .i64 0)]⟩])
    (.block 0 (.loop [0, 3, 4] [] [] [] (.seq (.seq (.reg [⟨some 5, none, .mv, [.t 4]⟩,
      ⟨some 6, none, .mv, [.t 0]⟩,
      ⟨some 7, none, .bin .lss, [.t 5, .t 6]⟩])
    (.cond (.t 7) .skip (.exit 0)))
    (.seq (.block 1 (.reg [⟨some 10, none, .mv, [.t 3]⟩,
      ⟨some 11, none, .bin .mul, [.t 10, .c (.int .i64 256)]⟩,
      ⟨some 3, none, .mv, [.t 11]⟩]))
    (.reg [⟨some 8, none, .mv, [.t 4]⟩,
      ⟨some 9, none, .bin .add, [.t 8, .c (.int .i64 1)]⟩,
      ⟨some 4, none, .mv, [.t 9]⟩]))))))
    (.seq (.reg [⟨some 12, none, .mv, [.t 3]⟩,
      ⟨some 2, none, .mv, [.t 12]⟩])
    .ret)))) []

/-- (*tripwire/shelf.Shelf[int, tripwire/dict.entry]).From$1 -/
def c113 : CFn := CFn.mk 3 []
    (.seq (.reg [⟨some 6, none, .load false 1, [.t 1]⟩,
      ⟨some 7, none, .pnil true, [.t 6]⟩,
      ⟨some 8, none, .mv, [.t 7]⟩,
      ⟨some 9, (some (8, true)), .load false 1, [.t 2]⟩,
      ⟨some 10, (some (8, true)), .load false 1, [.t 2]⟩,
      ⟨some 11, (some (8, true)), .bin .eql, [.t 9, .t 10]⟩,
      ⟨some 12, none, .pick, [.t 8, .t 11, .c (.bool false)]⟩])
    (.cond (.t 12) (.seq (.reg [⟨some 14, none, .load false 1, [.t 1]⟩,
      ⟨some 15, none, .load false 1, [.t 2]⟩,
      ⟨some 16, none, .call 104 false, [.t 14, .t 15]⟩,
      ⟨some 13, none, .mv, [.t 16]⟩,
      ⟨some 17, none, .ext 0, [.t 13]⟩,
      ⟨some 18, none, .ext 1, [.t 13]⟩,
      ⟨some 4, none, .mv, [.t 17]⟩,
      ⟨some 5, none, .mv, [.t 18]⟩])
    (.reg [⟨some 19, none, .load false 1, [.t 1]⟩,
      ⟨some 20, none, .nilc, [.t 19]⟩,
      ⟨some 21, none, .fadr 0, [.t 20]⟩,
      ⟨some 22, none, .load false 1, [.t 21]⟩,
      ⟨some 23, none, .mv, [.t 4]⟩,
      ⟨some 24, none, .slcl 6 true false, [.t 22, .t 23]⟩,
      ⟨some 25, none, .call 110 false, [.t 24]⟩,
      ⟨some 26, none, .mv, [.t 0]⟩,
      ⟨some 27, none, .call 114 false, [.t 25, .t 26]⟩])) .skip)) []

/-- tripwire/shelf.tell[int,tripwire/dict.entry] -/
def c114 : CFn := CFn.mk 2 []
    (.seq (.reg [⟨some 6, none, .mv, [.t 0]⟩,
      ⟨some 7, none, .len, [.t 6]⟩,
      ⟨some 8, none, .mv, [.c (.int .i64 0)]⟩])
    (.block 0 (.loop [1, 6, 7, 8] [] [] [] (.seq (.reg [⟨some 9, none, .bin .lss, [.t 8, .t 7]⟩])
    (.seq (.cond (.t 9) .skip (.exit 0))
    (.seq (.block 1 (.seq (.reg [⟨some 10, none, .ladr 6, [.t 6, .t 8]⟩,
      ⟨some 11, none, .load true 6, [.t 10]⟩,
      ⟨some 5, none, .alloc [(.int .i64 0), (.int .i64 0), (.int .i64 0), (.int .i64 0), (.int .i64 0), (.lst none true 1 [])], []⟩,
      ⟨none, none, .store 6, [.t 5, .t 11]⟩])
    (.seq (.reg [⟨some 12, none, .mv, [.t 1]⟩,
      ⟨some 13, none, .fadr 0, [.t 5]⟩,
      ⟨some 14, none, .load false 1, [.t 13]⟩,
      ⟨some 15, none, .fadr 1, [.t 5]⟩,
      ⟨some 16, none, .load true 5, [.t 15]⟩,
      ⟨some 17, none, .callv, [.t 12, .t 14, .t 16]⟩,
      ⟨some 18, none, .un .not, [.t 17]⟩])
    (.cond (.t 18) .ret .skip))))
    (.reg [⟨some 19, none, .bin .add, [.t 8, .c (.int .i64 1)]⟩,
      ⟨some 8, none, .mv, [.t 19]⟩]))))))) []

/-- tripwire/tripwireref14.hold -/
def c116 : CFn := CFn.mk 3 [.cell 6 true 2]
    (.seq (.reg [⟨some 3, none, .box, [.t 0]⟩,
      ⟨some 6, none, .alloc [(.lst none true 7 []), (.int .i64 0)], []⟩])
    (.seq (.reg [⟨some 8, none, .bsl true 1000007 39, []⟩,
      ⟨some 9, none, .fadr 0, [.t 3]⟩,
      ⟨some 10, none, .load false 1, [.t 9]⟩,
      ⟨some 11, none, .appr 7 64 39, [.t 8, .t 10]⟩,
      ⟨some 7, none, .mv, [.t 11]⟩])
    (.seq (.seq (.draw 7 [0, 0, 3, 7, 15, 0, 32, 127] [⟨some 12, none, .mv, [.t 7]⟩,
      ⟨some 13, none, .mv, [.t 1]⟩,
      ⟨some 14, none, .ladr 7, [.t 12, .t 13]⟩,
      ⟨some 15, none, .fadr 6, [.t 14]⟩,
      ⟨some 16, none, .load false 1, [.t 15]⟩,
      ⟨some 17, none, .mv, [.t 2]⟩,
      ⟨some 18, none, .b2s, [.t 17]⟩,
      ⟨some 19, none, .bin .neq, [.t 16, .t 18]⟩])
    (.cond (.t 19) (.reg [⟨some 20, none, .fadr 1, [.t 3]⟩,
      ⟨some 21, none, .load false 1, [.t 20]⟩,
      ⟨some 22, none, .bin .add, [.t 21, .c (.int .i64 1)]⟩,
      ⟨some 23, none, .fadr 1, [.t 3]⟩,
      ⟨none, none, .store 1, [.t 23, .t 22]⟩]) .skip))
    (.seq (.reg [⟨some 24, none, .mv, [.t 7]⟩,
      ⟨some 25, none, .mv, [.t 1]⟩,
      ⟨some 26, none, .mv, [.t 2]⟩,
      ⟨some 27, none, .b2s, [.t 26]⟩,
      ⟨some 28, none, .ladr 7, [.t 24, .t 25]⟩,
      ⟨some 29, none, .fadr 6, [.t 28]⟩,
      ⟨none, none, .store 1, [.t 29, .t 27]⟩])
    (.seq (.reg [⟨some 30, none, .mv, [.t 7]⟩,
      ⟨some 31, none, .fadr 0, [.t 3]⟩,
      ⟨none, none, .store 1, [.t 31, .t 30]⟩])
    (.seq (.reg [⟨some 32, none, .fload true 2, [.t 3]⟩,
      ⟨none, none, .store 2, [.t 6, .t 32]⟩])
    .ret)))))) []

/-- (*tripwire/shelf.Shelf[int, tripwire/dict.entry]).All$1 -/
def c119 : CFn := CFn.mk 2 []
    (.seq (.reg [⟨some 3, none, .load false 1, [.t 1]⟩,
      ⟨some 4, none, .pnil true, [.t 3]⟩])
    (.cond (.t 4) (.reg [⟨some 5, none, .load false 1, [.t 1]⟩,
      ⟨some 6, none, .nilc, [.t 5]⟩,
      ⟨some 7, none, .fadr 0, [.t 6]⟩,
      ⟨some 8, none, .load false 1, [.t 7]⟩,
      ⟨some 9, none, .call 110 false, [.t 8]⟩,
      ⟨some 10, none, .mv, [.t 0]⟩,
      ⟨some 11, none, .call 114 false, [.t 9, .t 10]⟩]) .skip)) []

/-- tripwire/tripwireref13.Writes -/
def c120 : CFn := CFn.mk 1 [.t 2 false]
    (.seq (.reg [⟨some 2, none, .mv, [.c (.int .i64 0)]⟩])
    (.seq (.reg [⟨some 4, none, .bsl false 1 57, [.c (.int .i64 100728832), .c (.int .i64 100728834), .c (.int .i64 0), .c (.int .i64 0), .c (.int .i64 100728834)]⟩,
      ⟨some 3, none, .mv, [.t 4]⟩])
    (.seq (.seq (.reg [⟨some 5, none, .mv, [.t 0]⟩,
      ⟨some 6, none, .bin .lss, [.t 5, .c (.int .i64 0)]⟩,
      ⟨some 7, none, .mv, [.t 6]⟩,
      ⟨some 8, (some (7, false)), .mv, [.t 0]⟩,
      ⟨some 9, (some (7, false)), .bin .gtr, [.t 8, .c (.int .i64 4)]⟩,
      ⟨some 10, none, .pick, [.t 7, .c (.bool true), .t 9]⟩])
    (.cond (.t 10) (.seq (.reg [⟨some 2, none, .mv, [.c (.int .i64 100728832)]⟩])
    .ret) .skip))
    (.seq (.reg [⟨some 11, none, .mv, [.t 3]⟩,
      ⟨some 12, none, .mv, [.t 0]⟩,
      ⟨some 13, none, .ladr 1, [.t 11, .t 12]⟩,
      ⟨some 14, none, .load false 1, [.t 13]⟩,
      ⟨some 2, none, .mv, [.t 14]⟩])
    .ret)))) []

/-- tripwire/word.signed -/
def c121 : CFn := CFn.mk 1 [.t 2 false]
    (.seq (.reg [⟨some 2, none, .mv, [.c (.bool false)]⟩])
    (.seq (.reg [⟨some 3, none, .mv, [.t 0]⟩,
      ⟨some 4, none, .bin .eql, [.t 3, .c (.int .i64 5)]⟩,
      ⟨some 5, none, .mv, [.t 4]⟩,
      ⟨some 6, (some (5, false)), .mv, [.t 0]⟩,
      ⟨some 7, (some (5, false)), .bin .eql, [.t 6, .c (.int .i64 6)]⟩,
      ⟨some 8, none, .pick, [.t 5, .c (.bool true), .t 7]⟩,
      ⟨some 9, none, .mv, [.t 8]⟩,
      ⟨some 10, (some (9, false)), .mv, [.t 0]⟩,
      ⟨some 11, (some (9, false)), .bin .eql, [.t 10, .c (.int .i64 7)]⟩,
      ⟨some 12, none, .pick, [.t 9, .c (.bool true), .t 11]⟩,
      ⟨some 2, none, .mv, [.t 12]⟩])
    .ret)) []

def codes : List (Nat × CFn) := [(3, c3), (4, c4), (9, c9), (11, c11), (12, c12), (13, c13), (14, c14), (15, c15), (16, c16), (17, c17), (18, c18), (19, c19), (20, c20), (21, c21), (23, c23), (24, c24), (25, c25), (26, c26), (27, c27), (28, c28), (29, c29), (30, c30), (31, c31), (32, c32), (33, c33), (34, c34), (35, c35), (44, c44), (45, c45), (46, c46), (47, c47), (48, c48), (49, c49), (50, c50), (52, c52), (53, c53), (54, c54), (55, c55), (56, c56), (57, c57), (58, c58), (59, c59), (60, c60), (61, c61), (62, c62), (63, c63), (64, c64), (65, c65), (66, c66), (67, c67), (68, c68), (69, c69), (70, c70), (71, c71), (72, c72), (73, c73), (74, c74), (75, c75), (76, c76), (77, c77), (78, c78), (79, c79), (80, c80), (81, c81), (82, c82), (83, c83), (85, c85), (88, c88), (89, c89), (90, c90), (91, c91), (92, c92), (93, c93), (94, c94), (95, c95), (97, c97), (98, c98), (99, c99), (100, c100), (101, c101), (102, c102), (103, c103), (104, c104), (106, c106), (107, c107), (108, c108), (109, c109), (110, c110), (111, c111), (112, c112), (113, c113), (114, c114), (116, c116), (119, c119), (120, c120), (121, c121)]
theorem k3 : chkAt Try.prog (3, c3) = true := by kernel_rfl
theorem k4 : chkAt Try.prog (4, c4) = true := by kernel_rfl
theorem k9 : chkAt Try.prog (9, c9) = true := by kernel_rfl
theorem k11 : chkAt Try.prog (11, c11) = true := by kernel_rfl
theorem k12 : chkAt Try.prog (12, c12) = true := by kernel_rfl
theorem k13 : chkAt Try.prog (13, c13) = true := by kernel_rfl
theorem k14 : chkAt Try.prog (14, c14) = true := by kernel_rfl
theorem k15 : chkAt Try.prog (15, c15) = true := by kernel_rfl
theorem k16 : chkAt Try.prog (16, c16) = true := by kernel_rfl
theorem k17 : chkAt Try.prog (17, c17) = true := by kernel_rfl
theorem k18 : chkAt Try.prog (18, c18) = true := by kernel_rfl
theorem k19 : chkAt Try.prog (19, c19) = true := by kernel_rfl
theorem k20 : chkAt Try.prog (20, c20) = true := by kernel_rfl
theorem k21 : chkAt Try.prog (21, c21) = true := by kernel_rfl
theorem k23 : chkAt Try.prog (23, c23) = true := by kernel_rfl
theorem k24 : chkAt Try.prog (24, c24) = true := by kernel_rfl
theorem k25 : chkAt Try.prog (25, c25) = true := by kernel_rfl
theorem k26 : chkAt Try.prog (26, c26) = true := by kernel_rfl
theorem k27 : chkAt Try.prog (27, c27) = true := by kernel_rfl
theorem k28 : chkAt Try.prog (28, c28) = true := by kernel_rfl
theorem k29 : chkAt Try.prog (29, c29) = true := by kernel_rfl
theorem k30 : chkAt Try.prog (30, c30) = true := by kernel_rfl
theorem k31 : chkAt Try.prog (31, c31) = true := by kernel_rfl
theorem k32 : chkAt Try.prog (32, c32) = true := by kernel_rfl
theorem k33 : chkAt Try.prog (33, c33) = true := by kernel_rfl
theorem k34 : chkAt Try.prog (34, c34) = true := by kernel_rfl
theorem k35 : chkAt Try.prog (35, c35) = true := by kernel_rfl
theorem k44 : chkAt Try.prog (44, c44) = true := by kernel_rfl
theorem k45 : chkAt Try.prog (45, c45) = true := by kernel_rfl
theorem k46 : chkAt Try.prog (46, c46) = true := by kernel_rfl
theorem k47 : chkAt Try.prog (47, c47) = true := by kernel_rfl
theorem k48 : chkAt Try.prog (48, c48) = true := by kernel_rfl
theorem k49 : chkAt Try.prog (49, c49) = true := by kernel_rfl
theorem k50 : chkAt Try.prog (50, c50) = true := by kernel_rfl
theorem k52 : chkAt Try.prog (52, c52) = true := by kernel_rfl
theorem k53 : chkAt Try.prog (53, c53) = true := by kernel_rfl
theorem k54 : chkAt Try.prog (54, c54) = true := by kernel_rfl
theorem k55 : chkAt Try.prog (55, c55) = true := by kernel_rfl
theorem k56 : chkAt Try.prog (56, c56) = true := by kernel_rfl
theorem k57 : chkAt Try.prog (57, c57) = true := by kernel_rfl
theorem k58 : chkAt Try.prog (58, c58) = true := by kernel_rfl
theorem k59 : chkAt Try.prog (59, c59) = true := by kernel_rfl
theorem k60 : chkAt Try.prog (60, c60) = true := by kernel_rfl
theorem k61 : chkAt Try.prog (61, c61) = true := by kernel_rfl
theorem k62 : chkAt Try.prog (62, c62) = true := by kernel_rfl
theorem k63 : chkAt Try.prog (63, c63) = true := by kernel_rfl
theorem k64 : chkAt Try.prog (64, c64) = true := by kernel_rfl
theorem k65 : chkAt Try.prog (65, c65) = true := by kernel_rfl
theorem k66 : chkAt Try.prog (66, c66) = true := by kernel_rfl
theorem k67 : chkAt Try.prog (67, c67) = true := by kernel_rfl
theorem k68 : chkAt Try.prog (68, c68) = true := by kernel_rfl
theorem k69 : chkAt Try.prog (69, c69) = true := by kernel_rfl
theorem k70 : chkAt Try.prog (70, c70) = true := by kernel_rfl
theorem k71 : chkAt Try.prog (71, c71) = true := by kernel_rfl
theorem k72 : chkAt Try.prog (72, c72) = true := by kernel_rfl
theorem k73 : chkAt Try.prog (73, c73) = true := by kernel_rfl
theorem k74 : chkAt Try.prog (74, c74) = true := by kernel_rfl
theorem k75 : chkAt Try.prog (75, c75) = true := by kernel_rfl
theorem k76 : chkAt Try.prog (76, c76) = true := by kernel_rfl
theorem k77 : chkAt Try.prog (77, c77) = true := by kernel_rfl
theorem k78 : chkAt Try.prog (78, c78) = true := by kernel_rfl
theorem k79 : chkAt Try.prog (79, c79) = true := by kernel_rfl
theorem k80 : chkAt Try.prog (80, c80) = true := by kernel_rfl
theorem k81 : chkAt Try.prog (81, c81) = true := by kernel_rfl
theorem k82 : chkAt Try.prog (82, c82) = true := by kernel_rfl
theorem k83 : chkAt Try.prog (83, c83) = true := by kernel_rfl
theorem k85 : chkAt Try.prog (85, c85) = true := by kernel_rfl
theorem k88 : chkAt Try.prog (88, c88) = true := by kernel_rfl
theorem k89 : chkAt Try.prog (89, c89) = true := by kernel_rfl
theorem k90 : chkAt Try.prog (90, c90) = true := by kernel_rfl
theorem k91 : chkAt Try.prog (91, c91) = true := by kernel_rfl
theorem k92 : chkAt Try.prog (92, c92) = true := by kernel_rfl
theorem k93 : chkAt Try.prog (93, c93) = true := by kernel_rfl
theorem k94 : chkAt Try.prog (94, c94) = true := by kernel_rfl
theorem k95 : chkAt Try.prog (95, c95) = true := by kernel_rfl
theorem k97 : chkAt Try.prog (97, c97) = true := by kernel_rfl
theorem k98 : chkAt Try.prog (98, c98) = true := by kernel_rfl
theorem k99 : chkAt Try.prog (99, c99) = true := by kernel_rfl
theorem k100 : chkAt Try.prog (100, c100) = true := by kernel_rfl
theorem k101 : chkAt Try.prog (101, c101) = true := by kernel_rfl
theorem k102 : chkAt Try.prog (102, c102) = true := by kernel_rfl
theorem k103 : chkAt Try.prog (103, c103) = true := by kernel_rfl
theorem k104 : chkAt Try.prog (104, c104) = true := by kernel_rfl
theorem k106 : chkAt Try.prog (106, c106) = true := by kernel_rfl
theorem k107 : chkAt Try.prog (107, c107) = true := by kernel_rfl
theorem k108 : chkAt Try.prog (108, c108) = true := by kernel_rfl
theorem k109 : chkAt Try.prog (109, c109) = true := by kernel_rfl
theorem k110 : chkAt Try.prog (110, c110) = true := by kernel_rfl
theorem k111 : chkAt Try.prog (111, c111) = true := by kernel_rfl
theorem k112 : chkAt Try.prog (112, c112) = true := by kernel_rfl
theorem k113 : chkAt Try.prog (113, c113) = true := by kernel_rfl
theorem k114 : chkAt Try.prog (114, c114) = true := by kernel_rfl
theorem k116 : chkAt Try.prog (116, c116) = true := by kernel_rfl
theorem k119 : chkAt Try.prog (119, c119) = true := by kernel_rfl
theorem k120 : chkAt Try.prog (120, c120) = true := by kernel_rfl
theorem k121 : chkAt Try.prog (121, c121) = true := by kernel_rfl
abbrev fns := fnsOf codes
theorem knows : Knows Try.prog fns := knows_of (ball_cons k3 (ball_cons k4 (ball_cons k9 (ball_cons k11 (ball_cons k12 (ball_cons k13 (ball_cons k14 (ball_cons k15 (ball_cons k16 (ball_cons k17 (ball_cons k18 (ball_cons k19 (ball_cons k20 (ball_cons k21 (ball_cons k23 (ball_cons k24 (ball_cons k25 (ball_cons k26 (ball_cons k27 (ball_cons k28 (ball_cons k29 (ball_cons k30 (ball_cons k31 (ball_cons k32 (ball_cons k33 (ball_cons k34 (ball_cons k35 (ball_cons k44 (ball_cons k45 (ball_cons k46 (ball_cons k47 (ball_cons k48 (ball_cons k49 (ball_cons k50 (ball_cons k52 (ball_cons k53 (ball_cons k54 (ball_cons k55 (ball_cons k56 (ball_cons k57 (ball_cons k58 (ball_cons k59 (ball_cons k60 (ball_cons k61 (ball_cons k62 (ball_cons k63 (ball_cons k64 (ball_cons k65 (ball_cons k66 (ball_cons k67 (ball_cons k68 (ball_cons k69 (ball_cons k70 (ball_cons k71 (ball_cons k72 (ball_cons k73 (ball_cons k74 (ball_cons k75 (ball_cons k76 (ball_cons k77 (ball_cons k78 (ball_cons k79 (ball_cons k80 (ball_cons k81 (ball_cons k82 (ball_cons k83 (ball_cons k85 (ball_cons k88 (ball_cons k89 (ball_cons k90 (ball_cons k91 (ball_cons k92 (ball_cons k93 (ball_cons k94 (ball_cons k95 (ball_cons k97 (ball_cons k98 (ball_cons k99 (ball_cons k100 (ball_cons k101 (ball_cons k102 (ball_cons k103 (ball_cons k104 (ball_cons k106 (ball_cons k107 (ball_cons k108 (ball_cons k109 (ball_cons k110 (ball_cons k111 (ball_cons k112 (ball_cons k113 (ball_cons k114 (ball_cons k116 (ball_cons k119 (ball_cons k120 (ball_cons k121 ball_nil))))))))))))))))))))))))))))))))))))))))))))))))))))))))))))))))))))))))))))))))))))))))))))))))
end Go.Proofs.Ytnagbdodcjlbjaa.ZJM.DC
