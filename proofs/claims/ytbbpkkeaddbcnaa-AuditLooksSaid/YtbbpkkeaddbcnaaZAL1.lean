/- Codes: a try of the new operations. -/
import Derived.Test.YtbbpkkeaddbcnaaZIM18
import Derived.Test.YtbbpkkeaddbcnaaProg
import Derived.KernelRfl
namespace Go.Proofs.Ytbbpkkeaddbcnaa.ZIM.AL
open Go.Proofs.Ytbbpkkeaddbcnaa.ZIM

/-- tripwire/tripwirelaw38.AuditLooks -/
def c5 : CFn := { np := 4, res := [.t 8], body :=
    (.seq (.reg [⟨some 4, none, .box, [.t 0]⟩,
      ⟨some 8, none, .mv, [.c (.bool false)]⟩])
    (.seq (.reg [⟨some 9, none, .mv, [.t 3]⟩,
      ⟨some 10, none, .call 21, [.t 9]⟩,
      ⟨some 3, none, .mv, [.t 10]⟩])
    (.seq (.draw 44 [0, 1, 3, 3, 15, 3, 35, 3, 131, 3, 1023, 2047, 4095, 8191, 16383, 16383, 65535, 16383, 147455, 16383, 540671, 16383, 4194303, 8388607, 16777215, 33554431, 67108863, 67108863, 268435455, 67108863, 67108863, 2147483647, 4294967295, 8589934591, 17179869183, 34359738367, 34359738367, 34359738367, 34359738367, 549755813887, 34359738367, 34359738367, 34359738367, 34359738367, 17592186044415, 35184372088831, 70368744177663, 140737488355327] [⟨some 11, none, .call 22, []⟩,
      ⟨some 12, none, .mv, [.t 11]⟩,
      ⟨some 13, (some (12, true)), .load true 7, [.t 4]⟩,
      ⟨some 14, (some (12, true)), .mv, [.t 3]⟩,
      ⟨some 15, (some (12, true)), .call 24, [.t 13, .t 14]⟩,
      ⟨some 16, (some (12, true)), .fadr 0, [.t 4]⟩,
      ⟨some 17, (some (12, true)), .load false 1, [.t 16]⟩,
      ⟨some 18, (some (12, true)), .fadr 1, [.t 4]⟩,
      ⟨some 19, (some (12, true)), .load false 1, [.t 18]⟩,
      ⟨some 20, (some (12, true)), .mv, [.t 3]⟩,
      ⟨some 21, (some (12, true)), .call 25, [.c (.int .i64 7), .t 17, .t 19, .t 20]⟩,
      ⟨some 22, (some (12, true)), .call 23, [.t 15, .t 21]⟩,
      ⟨some 23, none, .pick, [.t 12, .t 22, .c (.bool false)]⟩,
      ⟨some 24, none, .mv, [.t 23]⟩,
      ⟨some 25, (some (24, true)), .load true 7, [.t 4]⟩,
      ⟨some 26, (some (24, true)), .mv, [.t 3]⟩,
      ⟨some 27, (some (24, true)), .call 26, [.t 25, .t 26]⟩,
      ⟨some 28, (some (24, true)), .fadr 2, [.t 4]⟩,
      ⟨some 29, (some (24, true)), .load false 1, [.t 28]⟩,
      ⟨some 30, (some (24, true)), .fadr 3, [.t 4]⟩,
      ⟨some 31, (some (24, true)), .load false 1, [.t 30]⟩,
      ⟨some 32, (some (24, true)), .mv, [.t 3]⟩,
      ⟨some 33, (some (24, true)), .call 25, [.c (.int .i64 3), .t 29, .t 31, .t 32]⟩,
      ⟨some 34, (some (24, true)), .call 23, [.t 27, .t 33]⟩,
      ⟨some 35, none, .pick, [.t 24, .t 34, .c (.bool false)]⟩,
      ⟨some 36, none, .mv, [.t 35]⟩,
      ⟨some 37, (some (36, true)), .load true 7, [.t 4]⟩,
      ⟨some 38, (some (36, true)), .mv, [.t 3]⟩,
      ⟨some 39, (some (36, true)), .call 27, [.t 37, .t 38]⟩,
      ⟨some 40, (some (36, true)), .load true 7, [.t 4]⟩,
      ⟨some 41, (some (36, true)), .mv, [.t 3]⟩,
      ⟨some 42, (some (36, true)), .call 28, [.t 40, .t 41]⟩,
      ⟨some 43, (some (36, true)), .bin .eql, [.t 39, .t 42]⟩,
      ⟨some 44, none, .pick, [.t 36, .t 43, .c (.bool false)]⟩,
      ⟨some 45, none, .mv, [.t 44]⟩,
      ⟨some 46, (some (45, true)), .load true 7, [.t 4]⟩,
      ⟨some 47, (some (45, true)), .mv, [.t 1]⟩,
      ⟨some 48, (some (45, true)), .mv, [.t 2]⟩,
      ⟨some 49, (some (45, true)), .mv, [.t 3]⟩,
      ⟨some 50, (some (45, true)), .call 29, [.t 46, .t 47, .t 48, .t 49]⟩,
      ⟨some 51, (some (45, true)), .load true 7, [.t 4]⟩,
      ⟨some 52, (some (45, true)), .mv, [.t 1]⟩,
      ⟨some 53, (some (45, true)), .mv, [.t 2]⟩,
      ⟨some 54, (some (45, true)), .mv, [.t 3]⟩,
      ⟨some 55, (some (45, true)), .call 30, [.t 51, .t 52, .t 53, .t 54]⟩,
      ⟨some 56, (some (45, true)), .bin .eql, [.t 50, .t 55]⟩,
      ⟨some 57, none, .pick, [.t 45, .t 56, .c (.bool false)]⟩,
      ⟨some 8, none, .mv, [.t 57]⟩])
    .ret))) }

/-- tripwire/tripwirelaw38.few -/
def c21 : CFn := { np := 1, res := [.t 2], body :=
    (.seq (.reg [⟨some 2, none, .nil false 6 53, []⟩])
    (.seq (.reg [⟨some 6, none, .bsl true 6 53, []⟩,
      ⟨some 3, none, .mv, [.t 6]⟩])
    (.seq (.seq (.reg [⟨some 4, none, .mv, [.c (.int .i64 0)]⟩])
    (.block 0 (.loop [0, 3, 4] [] [6] (.seq (.seq (.reg [⟨some 7, none, .mv, [.t 4]⟩,
      ⟨some 8, none, .mv, [.t 0]⟩,
      ⟨some 9, none, .len, [.t 8]⟩,
      ⟨some 10, none, .bin .lss, [.t 7, .t 9]⟩,
      ⟨some 11, none, .mv, [.t 10]⟩,
      ⟨some 12, (some (11, true)), .mv, [.t 4]⟩,
      ⟨some 13, (some (11, true)), .bin .lss, [.t 12, .c (.int .i64 12)]⟩,
      ⟨some 14, none, .pick, [.t 11, .t 13, .c (.bool false)]⟩])
    (.cond (.t 14) .skip (.exit 0)))
    (.seq (.block 1 (.seq (.reg [⟨some 17, none, .mv, [.t 0]⟩,
      ⟨some 18, none, .mv, [.t 4]⟩,
      ⟨some 19, none, .ladr 6, [.t 17, .t 18]⟩,
      ⟨some 20, none, .load true 6, [.t 19]⟩,
      ⟨some 5, none, .alloc [(.int .i64 0), (.lst none true 1 []), (.lst none true 12 []), (.lst none true 14 []), (.lst none true 5 []), (.int .i64 0)], []⟩,
      ⟨none, none, .store 6, [.t 5, .t 20]⟩])
    (.seq (.reg [⟨some 21, none, .fadr 3, [.t 5]⟩,
      ⟨some 22, none, .load false 1, [.t 21]⟩,
      ⟨some 23, none, .fadr 3, [.t 5]⟩,
      ⟨some 24, none, .load false 1, [.t 23]⟩,
      ⟨some 25, none, .len, [.t 24]⟩,
      ⟨some 26, none, .mn, [.t 25, .c (.int .i64 4)]⟩,
      ⟨some 27, none, .slcl 14 false true, [.t 22, .t 26]⟩,
      ⟨some 28, none, .fadr 3, [.t 5]⟩,
      ⟨none, none, .store 1, [.t 28, .t 27]⟩])
    (.seq (.reg [⟨some 29, none, .fadr 4, [.t 5]⟩,
      ⟨some 30, none, .load false 1, [.t 29]⟩,
      ⟨some 31, none, .fadr 4, [.t 5]⟩,
      ⟨some 32, none, .load false 1, [.t 31]⟩,
      ⟨some 33, none, .len, [.t 32]⟩,
      ⟨some 34, none, .mn, [.t 33, .c (.int .i64 5)]⟩,
      ⟨some 35, none, .slcl 5 false true, [.t 30, .t 34]⟩,
      ⟨some 36, none, .fadr 4, [.t 5]⟩,
      ⟨none, none, .store 1, [.t 36, .t 35]⟩])
    (.reg [⟨some 37, none, .mv, [.t 3]⟩,
      ⟨some 38, none, .load true 6, [.t 5]⟩,
      ⟨some 39, none, .bsl false 6 53, [.t 38]⟩,
      ⟨some 40, none, .app false 6 112 53, [.t 37, .t 39]⟩,
      ⟨some 3, none, .mv, [.t 40]⟩])))))
    (.reg [⟨some 15, none, .mv, [.t 4]⟩,
      ⟨some 16, none, .bin .add, [.t 15, .c (.int .i64 1)]⟩,
      ⟨some 4, none, .mv, [.t 16]⟩]))))))
    (.seq (.reg [⟨some 41, none, .mv, [.t 3]⟩,
      ⟨some 2, none, .mv, [.t 41]⟩])
    .ret)))) }

/-- tripwire/tripwirelaw38.live -/
def c22 : CFn := { np := 0, res := [.t 0], body :=
    (.seq (.reg [⟨some 0, none, .mv, [.c (.bool false)]⟩])
    (.seq (.reg [⟨some 7, none, .build [(.int .i64 0), (.int .i64 0), (.int .i64 0), (.int .i64 0), (.int .i64 0), (.int .i64 0), (.int .i64 0)] [(0, 1), (2, 1), (4, 1), (5, 1), (6, 1)], [.c (.int .i64 1), .c (.int .i64 2), .c (.int .i64 257), .c (.int .i64 258), .c (.int .i64 2)]⟩,
      ⟨some 1, none, .alloc [(.int .i64 0), (.int .i64 0), (.int .i64 0), (.int .i64 0), (.int .i64 0), (.int .i64 0), (.int .i64 0)], []⟩,
      ⟨none, none, .store 7, [.t 1, .t 7]⟩])
    (.seq (.reg [⟨some 8, none, .build [(.int .i64 0), (.int .i64 0), (.int .i64 0), (.int .i64 0), (.str ByteArray.empty)] [(0, 1), (1, 1), (2, 1), (4, 1)], [.c (.int .i64 3), .c (.int .i64 1), .c (.int .i64 7), .c (.str ⟨#[5]⟩)]⟩,
      ⟨some 9, none, .bsl false 5 100, [.t 8]⟩,
      ⟨some 10, none, .build [(.int .i64 0), (.lst none true 1 []), (.lst none true 12 []), (.lst none true 14 []), (.lst none true 5 []), (.int .i64 0)] [(0, 1), (4, 1)], [.c (.int .i64 3), .t 9]⟩,
      ⟨some 2, none, .alloc [(.int .i64 0), (.lst none true 1 []), (.lst none true 12 []), (.lst none true 14 []), (.lst none true 5 []), (.int .i64 0)], []⟩,
      ⟨none, none, .store 6, [.t 2, .t 10]⟩])
    (.seq (.reg [⟨some 11, none, .build [(.int .u8 0), (.int .u8 0), (.int .u8 0), (.int .u8 0), (.int .u8 0), (.int .u8 0), (.int .u8 0), (.int .u8 0)] [(0, 1)], [.c (.int .u8 5)]⟩,
      ⟨some 12, none, .build [(.int .i64 0), (.bool false), (.int .i64 0), (.int .u8 0), (.int .u8 0), (.int .u8 0), (.int .u8 0), (.int .u8 0), (.int .u8 0), (.int .u8 0), (.int .u8 0)] [(0, 1), (2, 1), (3, 8)], [.c (.int .i64 257), .c (.int .i64 1), .t 11]⟩,
      ⟨some 13, none, .build [(.int .i64 0), (.int .i64 0), (.int .i64 0), (.bool false), (.int .i64 0), (.int .u8 0), (.int .u8 0), (.int .u8 0), (.int .u8 0), (.int .u8 0), (.int .u8 0), (.int .u8 0), (.int .u8 0), (.bool false)] [(0, 1), (1, 1), (2, 11), (13, 1)], [.c (.int .i64 1), .c (.int .i64 4), .t 12, .c (.bool true)]⟩,
      ⟨some 14, none, .bsl false 14 103, [.t 13]⟩,
      ⟨some 15, none, .build [(.int .i64 0), (.lst none true 1 []), (.lst none true 12 []), (.lst none true 14 []), (.lst none true 5 []), (.int .i64 0)] [(0, 1), (3, 1)], [.c (.int .i64 4), .t 14]⟩,
      ⟨some 3, none, .alloc [(.int .i64 0), (.lst none true 1 []), (.lst none true 12 []), (.lst none true 14 []), (.lst none true 5 []), (.int .i64 0)], []⟩,
      ⟨none, none, .store 6, [.t 3, .t 15]⟩])
    (.seq (.reg [⟨some 16, none, .build [(.int .u8 0), (.int .u8 0), (.int .u8 0), (.int .u8 0), (.int .u8 0), (.int .u8 0), (.int .u8 0), (.int .u8 0)] [(0, 1)], [.c (.int .u8 250)]⟩,
      ⟨some 17, none, .build [(.int .i64 0), (.bool false), (.int .i64 0), (.int .u8 0), (.int .u8 0), (.int .u8 0), (.int .u8 0), (.int .u8 0), (.int .u8 0), (.int .u8 0), (.int .u8 0)] [(0, 1), (2, 1), (3, 8)], [.c (.int .i64 258), .c (.int .i64 1), .t 16]⟩,
      ⟨some 18, none, .build [(.int .i64 0), (.int .i64 0), (.int .i64 0), (.bool false), (.int .i64 0), (.int .u8 0), (.int .u8 0), (.int .u8 0), (.int .u8 0), (.int .u8 0), (.int .u8 0), (.int .u8 0), (.int .u8 0), (.bool false)] [(0, 1), (1, 1), (2, 11), (13, 1)], [.c (.int .i64 1), .c (.int .i64 5), .t 17, .c (.bool true)]⟩,
      ⟨some 19, none, .bsl false 14 103, [.t 18]⟩,
      ⟨some 20, none, .build [(.int .i64 0), (.int .i64 0), (.int .i64 0), (.int .i64 0), (.str ByteArray.empty)] [(0, 1), (1, 1), (2, 1), (4, 1)], [.c (.int .i64 5), .c (.int .i64 2), .c (.int .i64 3), .c (.str ⟨#[5]⟩)]⟩,
      ⟨some 21, none, .bsl false 5 100, [.t 20]⟩,
      ⟨some 22, none, .build [(.int .i64 0), (.lst none true 1 []), (.lst none true 12 []), (.lst none true 14 []), (.lst none true 5 []), (.int .i64 0)] [(0, 1), (3, 1), (4, 1)], [.c (.int .i64 5), .t 19, .t 21]⟩,
      ⟨some 4, none, .alloc [(.int .i64 0), (.lst none true 1 []), (.lst none true 12 []), (.lst none true 14 []), (.lst none true 5 []), (.int .i64 0)], []⟩,
      ⟨none, none, .store 6, [.t 4, .t 22]⟩])
    (.seq (.reg [⟨some 23, none, .build [(.int .i64 0), (.int .i64 0), (.int .i64 0), (.int .i64 0), (.str ByteArray.empty)] [(0, 1), (1, 1), (2, 1), (4, 1)], [.c (.int .i64 9), .c (.int .i64 2), .c (.int .i64 3), .c (.str ⟨#[6]⟩)]⟩,
      ⟨some 24, none, .bsl false 5 100, [.t 23]⟩,
      ⟨some 25, none, .build [(.int .i64 0), (.lst none true 1 []), (.lst none true 12 []), (.lst none true 14 []), (.lst none true 5 []), (.int .i64 0)] [(0, 1), (4, 1)], [.c (.int .i64 9), .t 24]⟩,
      ⟨some 5, none, .alloc [(.int .i64 0), (.lst none true 1 []), (.lst none true 12 []), (.lst none true 14 []), (.lst none true 5 []), (.int .i64 0)], []⟩,
      ⟨none, none, .store 6, [.t 5, .t 25]⟩])
    (.seq (.reg [⟨some 26, none, .load true 7, [.t 1]⟩,
      ⟨some 27, none, .load true 6, [.t 2]⟩,
      ⟨some 28, none, .load true 6, [.t 3]⟩,
      ⟨some 29, none, .load true 6, [.t 4]⟩,
      ⟨some 30, none, .load true 6, [.t 5]⟩,
      ⟨some 31, none, .bsl false 6 53, [.t 27, .t 28, .t 29, .t 30]⟩,
      ⟨some 32, none, .call 42, [.t 26, .t 31]⟩,
      ⟨some 6, none, .mv, [.t 32]⟩])
    (.seq (.reg [⟨some 33, none, .load true 7, [.t 1]⟩,
      ⟨some 34, none, .load true 6, [.t 2]⟩,
      ⟨some 35, none, .load true 6, [.t 3]⟩,
      ⟨some 36, none, .load true 6, [.t 4]⟩,
      ⟨some 37, none, .bsl false 6 53, [.t 34, .t 35, .t 36]⟩,
      ⟨some 38, none, .call 27, [.t 33, .t 37]⟩,
      ⟨some 39, none, .bin .eql, [.t 38, .c (.int .i64 2)]⟩,
      ⟨some 40, none, .mv, [.t 39]⟩,
      ⟨some 41, (some (40, true)), .load true 7, [.t 1]⟩,
      ⟨some 42, (some (40, true)), .load true 6, [.t 2]⟩,
      ⟨some 43, (some (40, true)), .load true 6, [.t 3]⟩,
      ⟨some 44, (some (40, true)), .load true 6, [.t 4]⟩,
      ⟨some 45, (some (40, true)), .bsl false 6 53, [.t 42, .t 43, .t 44]⟩,
      ⟨some 46, (some (40, true)), .call 26, [.t 41, .t 45]⟩,
      ⟨some 47, (some (40, true)), .len, [.t 46]⟩,
      ⟨some 48, (some (40, true)), .bin .eql, [.t 47, .c (.int .i64 1)]⟩,
      ⟨some 49, none, .pick, [.t 40, .t 48, .c (.bool false)]⟩,
      ⟨some 50, none, .mv, [.t 49]⟩,
      ⟨some 51, (some (50, true)), .mv, [.t 6]⟩,
      ⟨some 52, (some (50, true)), .len, [.t 51]⟩,
      ⟨some 53, (some (50, true)), .bin .eql, [.t 52, .c (.int .i64 1)]⟩,
      ⟨some 54, none, .pick, [.t 50, .t 53, .c (.bool false)]⟩,
      ⟨some 55, none, .mv, [.t 54]⟩,
      ⟨some 56, (some (55, true)), .mv, [.t 6]⟩,
      ⟨some 57, (some (55, true)), .ladr 1, [.t 56, .c (.int .i64 0)]⟩,
      ⟨some 58, (some (55, true)), .load false 1, [.t 57]⟩,
      ⟨some 59, (some (55, true)), .bin .eql, [.t 58, .c (.int .i64 9)]⟩,
      ⟨some 60, none, .pick, [.t 55, .t 59, .c (.bool false)]⟩,
      ⟨some 0, none, .mv, [.t 60]⟩])
    .ret)))))))) }

/-- tripwire/audit.Unsound -/
def c42 : CFn := { np := 2, res := [.t 4], body :=
    (.seq (.reg [⟨some 2, none, .box, [.t 0]⟩,
      ⟨some 4, none, .nil false 1 3, []⟩])
    (.seq (.seq (.reg [⟨some 11, none, .fadr 6, [.t 2]⟩,
      ⟨some 12, none, .load false 1, [.t 11]⟩,
      ⟨some 13, none, .call 59, [.t 12]⟩,
      ⟨some 14, none, .un .not, [.t 13]⟩])
    (.cond (.t 14) (.seq (.reg [⟨some 4, none, .nil false 1 3, []⟩])
    .ret) .skip))
    (.seq (.reg [⟨some 5, none, .nil true 1 3, []⟩])
    (.seq (.draw 8 [0, 0, 3, 0, 0, 31, 0, 0, 255, 511, 1023, 2047] [⟨some 15, none, .load true 7, [.t 2]⟩,
      ⟨some 16, none, .mv, [.t 1]⟩,
      ⟨some 17, none, .call 47, [.t 15, .t 16]⟩,
      ⟨some 18, none, .load true 7, [.t 2]⟩,
      ⟨some 19, none, .mv, [.t 1]⟩,
      ⟨some 20, none, .call 24, [.t 18, .t 19]⟩,
      ⟨some 21, none, .load true 7, [.t 2]⟩,
      ⟨some 22, none, .mv, [.t 1]⟩,
      ⟨some 23, none, .call 27, [.t 21, .t 22]⟩,
      ⟨some 6, none, .mv, [.t 17]⟩,
      ⟨some 7, none, .mv, [.t 20]⟩,
      ⟨some 8, none, .mv, [.t 23]⟩])
    (.seq (.seq (.reg [⟨some 24, none, .load true 7, [.t 2]⟩,
      ⟨some 25, none, .mv, [.t 1]⟩,
      ⟨some 26, none, .call 26, [.t 24, .t 25]⟩,
      ⟨some 27, none, .len, [.t 26]⟩,
      ⟨some 28, none, .mv, [.c (.int .i64 0)]⟩])
    (.block 0 (.loop [2, 5, 6, 7, 8, 26, 27, 28] [2] [5] (.seq (.reg [⟨some 29, none, .bin .lss, [.t 28, .t 27]⟩])
    (.seq (.cond (.t 29) .skip (.exit 0))
    (.seq (.block 1 (.seq (.reg [⟨some 30, none, .ladr 2, [.t 26, .t 28]⟩,
      ⟨some 31, none, .load true 2, [.t 30]⟩,
      ⟨some 10, none, .alloc [(.int .i64 0), (.str ByteArray.empty)], []⟩,
      ⟨none, none, .store 2, [.t 10, .t 31]⟩])
    (.seq (.reg [⟨some 32, none, .load true 7, [.t 2]⟩,
      ⟨some 33, none, .load true 2, [.t 10]⟩,
      ⟨some 34, none, .mv, [.t 6]⟩,
      ⟨some 35, none, .mv, [.t 7]⟩,
      ⟨some 36, none, .mv, [.t 8]⟩,
      ⟨some 37, none, .call 60, [.t 32, .t 33, .t 34, .t 35, .t 36]⟩,
      ⟨some 38, none, .un .not, [.t 37]⟩])
    (.cond (.t 38) (.reg [⟨some 39, none, .mv, [.t 5]⟩,
      ⟨some 40, none, .fadr 0, [.t 10]⟩,
      ⟨some 41, none, .load false 1, [.t 40]⟩,
      ⟨some 42, none, .bsl false 1 3, [.t 41]⟩,
      ⟨some 43, none, .app false 1 8 3, [.t 39, .t 42]⟩,
      ⟨some 5, none, .mv, [.t 43]⟩]) .skip))))
    (.reg [⟨some 44, none, .bin .add, [.t 28, .c (.int .i64 1)]⟩,
      ⟨some 28, none, .mv, [.t 44]⟩])))))))
    (.seq (.reg [⟨some 45, none, .mv, [.t 5]⟩,
      ⟨some 4, none, .mv, [.t 45]⟩])
    .ret)))))) }

/-- tripwire/audit.tick -/
def c59 : CFn := { np := 1, res := [.t 2], body :=
    (.seq (.reg [⟨some 2, none, .mv, [.c (.bool false)]⟩])
    (.seq (.reg [⟨some 3, none, .mv, [.t 0]⟩,
      ⟨some 4, none, .bin .geq, [.t 3, .c (.int .i64 0)]⟩,
      ⟨some 5, none, .mv, [.t 4]⟩,
      ⟨some 6, (some (5, true)), .mv, [.t 0]⟩,
      ⟨some 7, (some (5, true)), .bin .leq, [.t 6, .c (.int .i64 2147483647)]⟩,
      ⟨some 8, none, .pick, [.t 5, .t 7, .c (.bool false)]⟩,
      ⟨some 2, none, .mv, [.t 8]⟩])
    .ret)) }

/-- tripwire/audit.frames -/
def c47 : CFn := { np := 2, res := [.t 4], body :=
    (.seq (.reg [⟨some 2, none, .box, [.t 0]⟩,
      ⟨some 4, none, .nil false 4 112, []⟩])
    (.seq (.reg [⟨some 5, none, .nil true 4 112, []⟩])
    (.seq (.seq (.reg [⟨some 12, none, .mv, [.t 1]⟩,
      ⟨some 13, none, .call 61, [.t 12]⟩,
      ⟨some 14, none, .len, [.t 13]⟩,
      ⟨some 15, none, .mv, [.c (.int .i64 0)]⟩])
    (.block 0 (.loop [2, 5, 13, 14, 15] [2] [5] (.seq (.reg [⟨some 16, none, .bin .lss, [.t 15, .t 14]⟩])
    (.seq (.cond (.t 16) .skip (.exit 0))
    (.seq (.block 1 (.seq (.reg [⟨some 17, none, .ladr 6, [.t 13, .t 15]⟩,
      ⟨some 18, none, .load true 6, [.t 17]⟩,
      ⟨some 7, none, .alloc [(.int .i64 0), (.lst none true 1 []), (.lst none true 12 []), (.lst none true 14 []), (.lst none true 5 []), (.int .i64 0)], []⟩,
      ⟨none, none, .store 6, [.t 7, .t 18]⟩])
    (.seq (.reg [⟨some 19, none, .fadr 3, [.t 7]⟩,
      ⟨some 20, none, .load false 1, [.t 19]⟩,
      ⟨some 21, none, .len, [.t 20]⟩,
      ⟨some 22, none, .mv, [.c (.int .i64 0)]⟩])
    (.block 2 (.loop [2, 5, 7, 13, 14, 15, 20, 21, 22] [2, 7] [5] (.seq (.reg [⟨some 23, none, .bin .lss, [.t 22, .t 21]⟩])
    (.seq (.cond (.t 23) .skip (.exit 2))
    (.seq (.block 3 (.seq (.reg [⟨some 24, none, .ladr 14, [.t 20, .t 22]⟩,
      ⟨some 25, none, .load true 14, [.t 24]⟩,
      ⟨some 9, none, .alloc [(.int .i64 0), (.int .i64 0), (.int .i64 0), (.bool false), (.int .i64 0), (.int .u8 0), (.int .u8 0), (.int .u8 0), (.int .u8 0), (.int .u8 0), (.int .u8 0), (.int .u8 0), (.int .u8 0), (.bool false)], []⟩,
      ⟨none, none, .store 14, [.t 9, .t 25]⟩])
    (.seq (.reg [⟨some 27, none, .load true 7, [.t 2]⟩,
      ⟨some 28, none, .fadr 0, [.t 7]⟩,
      ⟨some 29, none, .load false 1, [.t 28]⟩,
      ⟨some 30, none, .load true 14, [.t 9]⟩,
      ⟨some 31, none, .call 62, [.t 27, .t 29, .t 30]⟩,
      ⟨some 26, none, .mv, [.t 31]⟩,
      ⟨some 32, none, .ext 0, [.t 26]⟩,
      ⟨some 33, none, .ext 1, [.t 26]⟩,
      ⟨some 10, none, .alloc [(.int .i64 0), (.bool false), (.bool false), (.str ByteArray.empty)], []⟩,
      ⟨none, none, .store 4, [.t 10, .t 32]⟩,
      ⟨some 11, none, .mv, [.t 33]⟩])
    (.seq (.reg [⟨some 34, none, .mv, [.t 11]⟩])
    (.cond (.t 34) (.reg [⟨some 35, none, .mv, [.t 5]⟩,
      ⟨some 36, none, .load true 4, [.t 10]⟩,
      ⟨some 37, none, .bsl false 4 112, [.t 36]⟩,
      ⟨some 38, none, .app false 4 32 112, [.t 35, .t 37]⟩,
      ⟨some 5, none, .mv, [.t 38]⟩]) .skip)))))
    (.reg [⟨some 39, none, .bin .add, [.t 22, .c (.int .i64 1)]⟩,
      ⟨some 22, none, .mv, [.t 39]⟩])))))))))
    (.reg [⟨some 40, none, .bin .add, [.t 15, .c (.int .i64 1)]⟩,
      ⟨some 15, none, .mv, [.t 40]⟩])))))))
    (.seq (.reg [⟨some 41, none, .mv, [.t 5]⟩,
      ⟨some 4, none, .mv, [.t 41]⟩])
    .ret)))) }

/-- tripwire/audit.rounds -/
def c61 : CFn := { np := 1, res := [.t 2], body :=
    (.seq (.reg [⟨some 2, none, .nil false 6 53, []⟩])
    (.seq (.reg [⟨some 3, none, .nil true 6 53, []⟩])
    (.seq (.seq (.reg [⟨some 6, none, .mv, [.t 0]⟩,
      ⟨some 7, none, .len, [.t 6]⟩,
      ⟨some 8, none, .mv, [.c (.int .i64 0)]⟩])
    (.block 0 (.loop [3, 6, 7, 8] [] [3] (.seq (.reg [⟨some 9, none, .bin .lss, [.t 8, .t 7]⟩])
    (.seq (.cond (.t 9) .skip (.exit 0))
    (.seq (.block 1 (.seq (.reg [⟨some 10, none, .ladr 6, [.t 6, .t 8]⟩,
      ⟨some 11, none, .load true 6, [.t 10]⟩,
      ⟨some 5, none, .alloc [(.int .i64 0), (.lst none true 1 []), (.lst none true 12 []), (.lst none true 14 []), (.lst none true 5 []), (.int .i64 0)], []⟩,
      ⟨none, none, .store 6, [.t 5, .t 11]⟩])
    (.seq (.reg [⟨some 12, none, .fadr 0, [.t 5]⟩,
      ⟨some 13, none, .load false 1, [.t 12]⟩,
      ⟨some 14, none, .call 59, [.t 13]⟩])
    (.cond (.t 14) (.reg [⟨some 15, none, .mv, [.t 3]⟩,
      ⟨some 16, none, .load true 6, [.t 5]⟩,
      ⟨some 17, none, .bsl false 6 53, [.t 16]⟩,
      ⟨some 18, none, .app false 6 112 53, [.t 15, .t 17]⟩,
      ⟨some 3, none, .mv, [.t 18]⟩]) .skip))))
    (.reg [⟨some 19, none, .bin .add, [.t 8, .c (.int .i64 1)]⟩,
      ⟨some 8, none, .mv, [.t 19]⟩])))))))
    (.seq (.reg [⟨some 20, none, .mv, [.t 3]⟩,
      ⟨some 2, none, .mv, [.t 20]⟩])
    .ret)))) }

/-- tripwire/audit.of -/
def c62 : CFn := { np := 3, res := [.cell 6 true 4, .t 7], body :=
    (.seq (.reg [⟨some 3, none, .box, [.t 0]⟩,
      ⟨some 5, none, .box, [.t 2]⟩,
      ⟨some 6, none, .alloc [(.int .i64 0), (.bool false), (.bool false), (.str ByteArray.empty)], []⟩,
      ⟨some 7, none, .mv, [.c (.bool false)]⟩])
    (.seq (.seq (.reg [⟨some 10, none, .fadr 2, [.t 5]⟩,
      ⟨some 11, none, .fadr 0, [.t 10]⟩,
      ⟨some 12, none, .load false 1, [.t 11]⟩,
      ⟨some 13, none, .fadr 4, [.t 3]⟩,
      ⟨some 14, none, .load false 1, [.t 13]⟩,
      ⟨some 15, none, .bin .neq, [.t 12, .t 14]⟩,
      ⟨some 16, none, .mv, [.t 15]⟩,
      ⟨some 17, (some (16, true)), .fadr 2, [.t 5]⟩,
      ⟨some 18, (some (16, true)), .fadr 0, [.t 17]⟩,
      ⟨some 19, (some (16, true)), .load false 1, [.t 18]⟩,
      ⟨some 20, (some (16, true)), .fadr 5, [.t 3]⟩,
      ⟨some 21, (some (16, true)), .load false 1, [.t 20]⟩,
      ⟨some 22, (some (16, true)), .bin .neq, [.t 19, .t 21]⟩,
      ⟨some 23, none, .pick, [.t 16, .t 22, .c (.bool false)]⟩])
    (.cond (.t 23) (.seq (.reg [⟨some 24, none, .build [(.int .i64 0), (.bool false), (.bool false), (.str ByteArray.empty)] [], []⟩,
      ⟨none, none, .store 4, [.t 6, .t 24]⟩,
      ⟨some 7, none, .mv, [.c (.bool false)]⟩])
    .ret) .skip))
    (.seq (.reg [⟨some 25, none, .mv, [.t 1]⟩,
      ⟨some 26, none, .fadr 2, [.t 5]⟩,
      ⟨some 27, none, .fadr 0, [.t 26]⟩,
      ⟨some 28, none, .load false 1, [.t 27]⟩,
      ⟨some 29, none, .fadr 4, [.t 3]⟩,
      ⟨some 30, none, .load false 1, [.t 29]⟩,
      ⟨some 31, none, .bin .neq, [.t 28, .t 30]⟩,
      ⟨some 32, none, .fadr 13, [.t 5]⟩,
      ⟨some 33, none, .load false 1, [.t 32]⟩,
      ⟨some 34, none, .mv, [.t 33]⟩,
      ⟨some 35, (some (34, true)), .fadr 0, [.t 5]⟩,
      ⟨some 36, (some (34, true)), .load false 1, [.t 35]⟩,
      ⟨some 37, (some (34, true)), .fadr 0, [.t 3]⟩,
      ⟨some 38, (some (34, true)), .load false 1, [.t 37]⟩,
      ⟨some 39, (some (34, true)), .bin .eql, [.t 36, .t 38]⟩,
      ⟨some 40, none, .pick, [.t 34, .t 39, .c (.bool false)]⟩,
      ⟨some 41, none, .mv, [.t 40]⟩,
      ⟨some 42, (some (41, true)), .fadr 2, [.t 5]⟩,
      ⟨some 43, (some (41, true)), .fadr 1, [.t 42]⟩,
      ⟨some 44, (some (41, true)), .load false 1, [.t 43]⟩,
      ⟨some 45, (some (41, true)), .un .not, [.t 44]⟩,
      ⟨some 46, none, .pick, [.t 41, .t 45, .c (.bool false)]⟩,
      ⟨some 47, none, .build [(.int .i64 0), (.bool false), (.bool false), (.str ByteArray.empty)] [(0, 1), (1, 1), (2, 1)], [.t 25, .t 31, .t 46]⟩,
      ⟨some 8, none, .alloc [(.int .i64 0), (.bool false), (.bool false), (.str ByteArray.empty)], []⟩,
      ⟨none, none, .store 4, [.t 8, .t 47]⟩])
    (.seq (.reg [⟨some 48, none, .fadr 2, [.t 5]⟩,
      ⟨some 49, none, .load true 11, [.t 48]⟩,
      ⟨some 50, none, .call 78, [.t 49]⟩,
      ⟨some 9, none, .mv, [.t 50]⟩])
    (.seq (.seq (.reg [⟨some 51, none, .fadr 1, [.t 8]⟩,
      ⟨some 52, none, .load false 1, [.t 51]⟩])
    (.cond (.t 52) (.reg [⟨some 53, none, .mv, [.t 9]⟩,
      ⟨some 54, none, .call 79, [.t 53]⟩,
      ⟨some 9, none, .mv, [.t 54]⟩]) .skip))
    (.seq (.reg [⟨some 55, none, .mv, [.t 9]⟩,
      ⟨some 56, none, .b2s, [.t 55]⟩,
      ⟨some 57, none, .fadr 3, [.t 8]⟩,
      ⟨none, none, .store 1, [.t 57, .t 56]⟩])
    (.seq (.reg [⟨some 58, none, .load true 4, [.t 8]⟩,
      ⟨none, none, .store 4, [.t 6, .t 58]⟩,
      ⟨some 7, none, .mv, [.c (.bool true)]⟩])
    .ret))))))) }

/-- tripwire/frame.Bytes -/
def c78 : CFn := { np := 1, res := [.t 2], body :=
    (.seq (.reg [⟨some 1, none, .box, [.t 0]⟩,
      ⟨some 2, none, .nil false 1 5, []⟩])
    (.seq (.seq (.reg [⟨some 3, none, .load true 11, [.t 1]⟩,
      ⟨some 4, none, .call 96, [.t 3]⟩,
      ⟨some 5, none, .un .not, [.t 4]⟩])
    (.cond (.t 5) (.seq (.reg [⟨some 2, none, .nil false 1 5, []⟩])
    .ret) .skip))
    (.seq (.reg [⟨some 6, none, .fadr 3, [.t 1]⟩,
      ⟨some 7, none, .fadr 2, [.t 1]⟩,
      ⟨some 8, none, .load false 1, [.t 7]⟩,
      ⟨some 9, none, .rsl 1 8 false true, [.t 6, .t 8]⟩,
      ⟨some 10, none, .app false 1 1 5, [.c (.lst none true 1 []), .t 9]⟩,
      ⟨some 2, none, .mv, [.t 10]⟩])
    .ret))) }

/-- tripwire/frame.data -/
def c96 : CFn := { np := 1, res := [.t 2], body :=
    (.seq (.reg [⟨some 1, none, .box, [.t 0]⟩,
      ⟨some 2, none, .mv, [.c (.bool false)]⟩])
    (.seq (.reg [⟨some 3, none, .load true 11, [.t 1]⟩,
      ⟨some 4, none, .call 89, [.t 3]⟩,
      ⟨some 5, none, .bin .eql, [.t 4, .c (.int .i64 0)]⟩,
      ⟨some 6, none, .mv, [.t 5]⟩,
      ⟨some 7, (some (6, true)), .fadr 1, [.t 1]⟩,
      ⟨some 8, (some (6, true)), .load false 1, [.t 7]⟩,
      ⟨some 9, (some (6, true)), .un .not, [.t 8]⟩,
      ⟨some 10, none, .pick, [.t 6, .t 9, .c (.bool false)]⟩,
      ⟨some 2, none, .mv, [.t 10]⟩])
    .ret)) }

/-- tripwire/frame.Check -/
def c89 : CFn := { np := 1, res := [.t 2], body :=
    (.seq (.reg [⟨some 1, none, .box, [.t 0]⟩,
      ⟨some 2, none, .mv, [.c (.int .i64 0)]⟩])
    (.seq (.block 0 (.seq (.reg [⟨some 5, none, .fadr 0, [.t 1]⟩,
      ⟨some 6, none, .load false 1, [.t 5]⟩,
      ⟨some 7, none, .bin .lss, [.t 6, .c (.int .i64 0)]⟩,
      ⟨some 8, none, .mv, [.t 7]⟩,
      ⟨some 9, (some (8, false)), .fadr 0, [.t 1]⟩,
      ⟨some 10, (some (8, false)), .load false 1, [.t 9]⟩,
      ⟨some 11, (some (8, false)), .bin .gtr, [.t 10, .c (.int .i64 2047)]⟩,
      ⟨some 12, none, .pick, [.t 8, .c (.bool true), .t 11]⟩,
      ⟨some 4, none, .mv, [.t 12]⟩])
    (.cond (.t 4) (.seq (.reg [⟨some 2, none, .mv, [.c (.int .i64 3)]⟩])
    .ret) (.seq (.reg [⟨some 14, none, .fadr 2, [.t 1]⟩,
      ⟨some 15, none, .load false 1, [.t 14]⟩,
      ⟨some 16, none, .bin .lss, [.t 15, .c (.int .i64 0)]⟩,
      ⟨some 17, none, .mv, [.t 16]⟩,
      ⟨some 18, (some (17, false)), .fadr 2, [.t 1]⟩,
      ⟨some 19, (some (17, false)), .load false 1, [.t 18]⟩,
      ⟨some 20, (some (17, false)), .bin .gtr, [.t 19, .c (.int .i64 8)]⟩,
      ⟨some 21, none, .pick, [.t 17, .c (.bool true), .t 20]⟩,
      ⟨some 13, none, .mv, [.t 21]⟩])
    (.cond (.t 13) (.seq (.reg [⟨some 2, none, .mv, [.c (.int .i64 11)]⟩])
    .ret) .skip)))))
    (.seq (.reg [⟨some 22, none, .load true 11, [.t 1]⟩,
      ⟨some 3, none, .alloc [(.int .i64 0), (.bool false), (.int .i64 0), (.int .u8 0), (.int .u8 0), (.int .u8 0), (.int .u8 0), (.int .u8 0), (.int .u8 0), (.int .u8 0), (.int .u8 0)], []⟩,
      ⟨none, none, .store 11, [.t 3, .t 22]⟩])
    (.seq (.seq (.reg [⟨some 23, none, .fadr 1, [.t 1]⟩,
      ⟨some 24, none, .load false 1, [.t 23]⟩])
    (.cond (.t 24) (.reg [⟨some 25, none, .build [(.int .u8 0), (.int .u8 0), (.int .u8 0), (.int .u8 0), (.int .u8 0), (.int .u8 0), (.int .u8 0), (.int .u8 0)] [], []⟩,
      ⟨some 26, none, .fadr 3, [.t 3]⟩,
      ⟨none, none, .store 8, [.t 26, .t 25]⟩]) .skip))
    (.seq (.reg [⟨some 27, none, .fadr 3, [.t 3]⟩,
      ⟨some 28, none, .fadr 2, [.t 1]⟩,
      ⟨some 29, none, .load false 1, [.t 28]⟩,
      ⟨some 30, none, .rsl 1 8 true false, [.t 27, .t 29]⟩,
      ⟨none, none, .clr 1 [(.int .u8 0)], [.t 30]⟩])
    (.seq (.seq (.reg [⟨some 31, none, .load true 11, [.t 3]⟩,
      ⟨some 32, none, .load true 11, [.t 1]⟩,
      ⟨some 33, none, .eq [(0, 0), (1, 1), (2, 0), (3, 0), (4, 0), (5, 0), (6, 0), (7, 0), (8, 0), (9, 0), (10, 0)] true, [.t 31, .t 32]⟩])
    (.cond (.t 33) (.seq (.reg [⟨some 2, none, .mv, [.c (.int .i64 4)]⟩])
    .ret) .skip))
    (.seq (.reg [⟨some 2, none, .mv, [.c (.int .i64 0)]⟩])
    .ret))))))) }

/-- tripwire/word.Flip -/
def c79 : CFn := { np := 1, res := [.t 2], body :=
    (.seq (.reg [⟨some 2, none, .nil false 1 5, []⟩])
    (.seq (.reg [⟨some 6, none, .mv, [.t 0]⟩,
      ⟨some 7, none, .len, [.t 6]⟩,
      ⟨some 8, none, .mks 1 1 [(.int .u8 0)], [.t 7, .t 7]⟩,
      ⟨some 3, none, .mv, [.t 8]⟩])
    (.seq (.seq (.reg [⟨some 9, none, .mv, [.t 0]⟩,
      ⟨some 10, none, .len, [.t 9]⟩,
      ⟨some 11, none, .mv, [.c (.int .i64 0)]⟩])
    (.block 0 (.loop [3, 9, 10, 11] [8] [] (.seq (.reg [⟨some 12, none, .bin .lss, [.t 11, .t 10]⟩])
    (.seq (.cond (.t 12) .skip (.exit 0))
    (.seq (.block 1 (.seq (.reg [⟨some 13, none, .mv, [.t 11]⟩,
      ⟨some 14, none, .ladr 1, [.t 9, .t 11]⟩,
      ⟨some 15, none, .load false 1, [.t 14]⟩,
      ⟨some 4, none, .mv, [.t 13]⟩,
      ⟨some 5, none, .mv, [.t 15]⟩])
    (.reg [⟨some 16, none, .mv, [.t 3]⟩,
      ⟨some 17, none, .mv, [.t 4]⟩,
      ⟨some 18, none, .mv, [.t 5]⟩,
      ⟨some 19, none, .un .xor, [.t 18]⟩,
      ⟨some 20, none, .ladr 1, [.t 16, .t 17]⟩,
      ⟨none, none, .store 1, [.t 20, .t 19]⟩])))
    (.reg [⟨some 21, none, .bin .add, [.t 11, .c (.int .i64 1)]⟩,
      ⟨some 11, none, .mv, [.t 21]⟩])))))))
    (.seq (.reg [⟨some 22, none, .mv, [.t 3]⟩,
      ⟨some 2, none, .frz [] [] [], [.t 22]⟩])
    .ret)))) }

/-- tripwire/audit.Emits -/
def c24 : CFn := { np := 2, res := [.t 4], body :=
    (.seq (.reg [⟨some 2, none, .box, [.t 0]⟩,
      ⟨some 4, none, .nil false 2 83, []⟩])
    (.seq (.reg [⟨some 5, none, .mv, [.t 1]⟩,
      ⟨some 6, none, .mkf 44, [.t 2]⟩,
      ⟨some 7, none, .call 43, [.t 5, .t 6]⟩,
      ⟨some 4, none, .mv, [.t 7]⟩])
    .ret)) }

/-- tripwire/audit.seen -/
def c43 : CFn := { np := 2, res := [.t 4], body :=
    (.seq (.reg [⟨some 4, none, .nil false 2 83, []⟩])
    (.seq (.reg [⟨some 5, none, .nil true 2 83, []⟩])
    (.seq (.seq (.reg [⟨some 10, none, .mv, [.t 0]⟩,
      ⟨some 11, none, .call 61, [.t 10]⟩,
      ⟨some 12, none, .len, [.t 11]⟩,
      ⟨some 13, none, .mv, [.c (.int .i64 0)]⟩])
    (.block 0 (.loop [1, 5, 11, 12, 13] [] [5] (.seq (.reg [⟨some 14, none, .bin .lss, [.t 13, .t 12]⟩])
    (.seq (.cond (.t 14) .skip (.exit 0))
    (.seq (.block 1 (.seq (.reg [⟨some 15, none, .ladr 6, [.t 11, .t 13]⟩,
      ⟨some 16, none, .load true 6, [.t 15]⟩,
      ⟨some 7, none, .alloc [(.int .i64 0), (.lst none true 1 []), (.lst none true 12 []), (.lst none true 14 []), (.lst none true 5 []), (.int .i64 0)], []⟩,
      ⟨none, none, .store 6, [.t 7, .t 16]⟩])
    (.seq (.reg [⟨some 17, none, .fadr 4, [.t 7]⟩,
      ⟨some 18, none, .load false 1, [.t 17]⟩,
      ⟨some 19, none, .len, [.t 18]⟩,
      ⟨some 20, none, .mv, [.c (.int .i64 0)]⟩])
    (.block 2 (.loop [1, 5, 7, 11, 12, 13, 18, 19, 20] [7] [5] (.seq (.reg [⟨some 21, none, .bin .lss, [.t 20, .t 19]⟩])
    (.seq (.cond (.t 21) .skip (.exit 2))
    (.seq (.block 3 (.seq (.reg [⟨some 22, none, .ladr 5, [.t 18, .t 20]⟩,
      ⟨some 23, none, .load true 5, [.t 22]⟩,
      ⟨some 9, none, .alloc [(.int .i64 0), (.int .i64 0), (.int .i64 0), (.int .i64 0), (.str ByteArray.empty)], []⟩,
      ⟨none, none, .store 5, [.t 9, .t 23]⟩])
    (.seq (.reg [⟨some 24, none, .mv, [.t 1]⟩,
      ⟨some 25, none, .load true 5, [.t 9]⟩,
      ⟨some 26, none, .callv, [.t 24, .t 25]⟩])
    (.cond (.t 26) (.reg [⟨some 27, none, .mv, [.t 5]⟩,
      ⟨some 28, none, .fadr 0, [.t 7]⟩,
      ⟨some 29, none, .load false 1, [.t 28]⟩,
      ⟨some 30, none, .fadr 4, [.t 9]⟩,
      ⟨some 31, none, .load false 1, [.t 30]⟩,
      ⟨some 32, none, .build [(.int .i64 0), (.str ByteArray.empty)] [(0, 1), (1, 1)], [.t 29, .t 31]⟩,
      ⟨some 33, none, .bsl false 2 83, [.t 32]⟩,
      ⟨some 34, none, .app false 2 24 83, [.t 27, .t 33]⟩,
      ⟨some 5, none, .mv, [.t 34]⟩]) .skip))))
    (.reg [⟨some 35, none, .bin .add, [.t 20, .c (.int .i64 1)]⟩,
      ⟨some 20, none, .mv, [.t 35]⟩])))))))))
    (.reg [⟨some 36, none, .bin .add, [.t 13, .c (.int .i64 1)]⟩,
      ⟨some 13, none, .mv, [.t 36]⟩])))))))
    (.seq (.reg [⟨some 37, none, .mv, [.t 5]⟩,
      ⟨some 4, none, .mv, [.t 37]⟩])
    .ret)))) }

/-- tripwire/audit.Emits$1 -/
def c44 : CFn := { np := 2, res := [.t 3], body :=
    (.seq (.reg [⟨some 2, none, .box, [.t 0]⟩,
      ⟨some 3, none, .mv, [.c (.bool false)]⟩])
    (.seq (.reg [⟨some 4, none, .fadr 2, [.t 2]⟩,
      ⟨some 5, none, .load false 1, [.t 4]⟩,
      ⟨some 6, none, .bin .eql, [.t 5, .c (.int .i64 7)]⟩,
      ⟨some 7, none, .mv, [.t 6]⟩,
      ⟨some 8, (some (7, true)), .fadr 1, [.t 2]⟩,
      ⟨some 9, (some (7, true)), .load false 1, [.t 8]⟩,
      ⟨some 10, (some (7, true)), .fadr 0, [.t 1]⟩,
      ⟨some 11, (some (7, true)), .load false 1, [.t 10]⟩,
      ⟨some 12, (some (7, true)), .bin .eql, [.t 9, .t 11]⟩,
      ⟨some 13, none, .pick, [.t 7, .t 12, .c (.bool false)]⟩,
      ⟨some 14, none, .mv, [.t 13]⟩,
      ⟨some 15, (some (14, true)), .fadr 3, [.t 2]⟩,
      ⟨some 16, (some (14, true)), .load false 1, [.t 15]⟩,
      ⟨some 17, (some (14, true)), .fadr 1, [.t 1]⟩,
      ⟨some 18, (some (14, true)), .load false 1, [.t 17]⟩,
      ⟨some 19, (some (14, true)), .bin .eql, [.t 16, .t 18]⟩,
      ⟨some 20, none, .pick, [.t 14, .t 19, .c (.bool false)]⟩,
      ⟨some 3, none, .mv, [.t 20]⟩])
    .ret)) }

/-- tripwire/audit.Wait -/
def c27 : CFn := { np := 2, res := [.t 4], body :=
    (.seq (.reg [⟨some 2, none, .box, [.t 0]⟩,
      ⟨some 4, none, .mv, [.c (.int .i64 0)]⟩])
    (.seq (.reg [⟨some 11, none, .load true 7, [.t 2]⟩,
      ⟨some 12, none, .mv, [.t 1]⟩,
      ⟨some 13, none, .call 24, [.t 11, .t 12]⟩,
      ⟨some 5, none, .mv, [.t 13]⟩,
      ⟨some 6, none, .mv, [.c (.int .i64 0)]⟩])
    (.seq (.seq (.reg [⟨some 14, none, .load true 7, [.t 2]⟩,
      ⟨some 15, none, .mv, [.t 1]⟩,
      ⟨some 16, none, .call 47, [.t 14, .t 15]⟩,
      ⟨some 17, none, .len, [.t 16]⟩,
      ⟨some 18, none, .mv, [.c (.int .i64 0)]⟩])
    (.block 0 (.loop [5, 6, 16, 17, 18] [] [] (.seq (.reg [⟨some 19, none, .bin .lss, [.t 18, .t 17]⟩])
    (.seq (.cond (.t 19) .skip (.exit 0))
    (.seq (.block 1 (.seq (.reg [⟨some 20, none, .ladr 4, [.t 16, .t 18]⟩,
      ⟨some 21, none, .load true 4, [.t 20]⟩,
      ⟨some 8, none, .alloc [(.int .i64 0), (.bool false), (.bool false), (.str ByteArray.empty)], []⟩,
      ⟨none, none, .store 4, [.t 8, .t 21]⟩])
    (.seq (.reg [⟨some 23, none, .load true 4, [.t 8]⟩,
      ⟨some 24, none, .mv, [.t 5]⟩,
      ⟨some 25, none, .call 48, [.t 23, .t 24]⟩,
      ⟨some 22, none, .mv, [.t 25]⟩,
      ⟨some 26, none, .ext 0, [.t 22]⟩,
      ⟨some 27, none, .ext 1, [.t 22]⟩,
      ⟨some 9, none, .mv, [.t 26]⟩,
      ⟨some 10, none, .mv, [.t 27]⟩])
    (.seq (.reg [⟨some 28, none, .mv, [.t 10]⟩])
    (.cond (.t 28) (.reg [⟨some 29, none, .mv, [.t 6]⟩,
      ⟨some 30, none, .mv, [.t 9]⟩,
      ⟨some 31, none, .mx, [.t 29, .t 30]⟩,
      ⟨some 6, none, .mv, [.t 31]⟩]) .skip)))))
    (.reg [⟨some 32, none, .bin .add, [.t 18, .c (.int .i64 1)]⟩,
      ⟨some 18, none, .mv, [.t 32]⟩])))))))
    (.seq (.reg [⟨some 33, none, .mv, [.t 6]⟩,
      ⟨some 4, none, .mv, [.t 33]⟩])
    .ret)))) }

/-- (tripwire/audit.heard).wait -/
def c48 : CFn := { np := 2, res := [.t 4, .t 5], body :=
    (.seq (.reg [⟨some 2, none, .box, [.t 0]⟩,
      ⟨some 4, none, .mv, [.c (.int .i64 0)]⟩,
      ⟨some 5, none, .mv, [.c (.bool false)]⟩])
    (.seq (.reg [⟨some 9, none, .mv, [.t 1]⟩,
      ⟨some 10, none, .fadr 3, [.t 2]⟩,
      ⟨some 11, none, .load false 1, [.t 10]⟩,
      ⟨some 12, none, .fadr 0, [.t 2]⟩,
      ⟨some 13, none, .load false 1, [.t 12]⟩,
      ⟨some 14, none, .call 63, [.t 9, .t 11, .t 13]⟩,
      ⟨some 8, none, .mv, [.t 14]⟩,
      ⟨some 15, none, .ext 0, [.t 8]⟩,
      ⟨some 16, none, .ext 1, [.t 8]⟩,
      ⟨some 6, none, .mv, [.t 15]⟩,
      ⟨some 7, none, .mv, [.t 16]⟩])
    (.seq (.draw 10 [0, 1, 0, 7, 0, 16, 48, 112, 240, 63, 1023] [⟨some 17, none, .fadr 0, [.t 2]⟩,
      ⟨some 18, none, .load false 1, [.t 17]⟩,
      ⟨some 19, none, .mv, [.t 6]⟩,
      ⟨some 20, none, .bin .sub, [.t 18, .t 19]⟩,
      ⟨some 21, none, .mv, [.t 7]⟩,
      ⟨some 22, none, .mv, [.t 21]⟩,
      ⟨some 23, (some (22, true)), .fadr 2, [.t 2]⟩,
      ⟨some 24, (some (22, true)), .load false 1, [.t 23]⟩,
      ⟨some 25, none, .pick, [.t 22, .t 24, .c (.bool false)]⟩,
      ⟨some 4, none, .mv, [.t 20]⟩,
      ⟨some 5, none, .mv, [.t 25]⟩])
    .ret))) }

/-- tripwire/audit.last -/
def c63 : CFn := { np := 3, res := [.t 6, .t 7], body :=
    (.seq (.reg [⟨some 6, none, .mv, [.c (.int .i64 0)]⟩,
      ⟨some 7, none, .mv, [.c (.bool false)]⟩])
    (.seq (.reg [⟨some 8, none, .mv, [.c (.int .i64 0)]⟩,
      ⟨some 9, none, .mv, [.c (.bool false)]⟩])
    (.seq (.seq (.reg [⟨some 12, none, .mv, [.t 0]⟩,
      ⟨some 13, none, .len, [.t 12]⟩,
      ⟨some 14, none, .mv, [.c (.int .i64 0)]⟩])
    (.block 0 (.loop [1, 2, 8, 9, 12, 13, 14] [] [] (.seq (.reg [⟨some 15, none, .bin .lss, [.t 14, .t 13]⟩])
    (.seq (.cond (.t 15) .skip (.exit 0))
    (.seq (.block 1 (.seq (.reg [⟨some 16, none, .ladr 2, [.t 12, .t 14]⟩,
      ⟨some 17, none, .load true 2, [.t 16]⟩,
      ⟨some 11, none, .alloc [(.int .i64 0), (.str ByteArray.empty)], []⟩,
      ⟨none, none, .store 2, [.t 11, .t 17]⟩])
    (.seq (.reg [⟨some 18, none, .fadr 1, [.t 11]⟩,
      ⟨some 19, none, .load false 1, [.t 18]⟩,
      ⟨some 20, none, .mv, [.t 1]⟩,
      ⟨some 21, none, .bin .eql, [.t 19, .t 20]⟩,
      ⟨some 22, none, .mv, [.t 21]⟩,
      ⟨some 23, (some (22, true)), .fadr 0, [.t 11]⟩,
      ⟨some 24, (some (22, true)), .load false 1, [.t 23]⟩,
      ⟨some 25, (some (22, true)), .mv, [.t 2]⟩,
      ⟨some 26, (some (22, true)), .bin .leq, [.t 24, .t 25]⟩,
      ⟨some 27, none, .pick, [.t 22, .t 26, .c (.bool false)]⟩,
      ⟨some 28, none, .mv, [.t 27]⟩,
      ⟨some 29, (some (28, true)), .mv, [.t 9]⟩,
      ⟨some 30, (some (28, true)), .un .not, [.t 29]⟩,
      ⟨some 31, (some (28, true)), .mv, [.t 30]⟩,
      ⟨some 32, (some (31, false)), .fadr 0, [.t 11]⟩,
      ⟨some 33, (some (31, false)), .load false 1, [.t 32]⟩,
      ⟨some 34, (some (31, false)), .mv, [.t 8]⟩,
      ⟨some 35, (some (31, false)), .bin .gtr, [.t 33, .t 34]⟩,
      ⟨some 36, (some (28, true)), .pick, [.t 31, .c (.bool true), .t 35]⟩,
      ⟨some 37, none, .pick, [.t 28, .t 36, .c (.bool false)]⟩])
    (.cond (.t 37) (.reg [⟨some 38, none, .fadr 0, [.t 11]⟩,
      ⟨some 39, none, .load false 1, [.t 38]⟩,
      ⟨some 8, none, .mv, [.t 39]⟩,
      ⟨some 9, none, .mv, [.c (.bool true)]⟩]) .skip))))
    (.reg [⟨some 40, none, .bin .add, [.t 14, .c (.int .i64 1)]⟩,
      ⟨some 14, none, .mv, [.t 40]⟩])))))))
    (.seq (.reg [⟨some 41, none, .mv, [.t 8]⟩,
      ⟨some 42, none, .mv, [.t 9]⟩,
      ⟨some 6, none, .mv, [.t 41]⟩,
      ⟨some 7, none, .mv, [.t 42]⟩])
    .ret)))) }

/-- tripwire/audit.Outs -/
def c26 : CFn := { np := 2, res := [.t 4], body :=
    (.seq (.reg [⟨some 2, none, .box, [.t 0]⟩,
      ⟨some 4, none, .nil false 2 83, []⟩])
    (.seq (.reg [⟨some 5, none, .mv, [.t 1]⟩,
      ⟨some 6, none, .mkf 46, [.t 2]⟩,
      ⟨some 7, none, .call 43, [.t 5, .t 6]⟩,
      ⟨some 4, none, .mv, [.t 7]⟩])
    .ret)) }

/-- tripwire/audit.Outs$1 -/
def c46 : CFn := { np := 2, res := [.t 3], body :=
    (.seq (.reg [⟨some 2, none, .box, [.t 0]⟩,
      ⟨some 3, none, .mv, [.c (.bool false)]⟩])
    (.seq (.reg [⟨some 4, none, .fadr 2, [.t 2]⟩,
      ⟨some 5, none, .load false 1, [.t 4]⟩,
      ⟨some 6, none, .bin .eql, [.t 5, .c (.int .i64 3)]⟩,
      ⟨some 7, none, .mv, [.t 6]⟩,
      ⟨some 8, (some (7, true)), .fadr 1, [.t 2]⟩,
      ⟨some 9, (some (7, true)), .load false 1, [.t 8]⟩,
      ⟨some 10, (some (7, true)), .fadr 2, [.t 1]⟩,
      ⟨some 11, (some (7, true)), .load false 1, [.t 10]⟩,
      ⟨some 12, (some (7, true)), .bin .eql, [.t 9, .t 11]⟩,
      ⟨some 13, none, .pick, [.t 7, .t 12, .c (.bool false)]⟩,
      ⟨some 14, none, .mv, [.t 13]⟩,
      ⟨some 15, (some (14, true)), .fadr 3, [.t 2]⟩,
      ⟨some 16, (some (14, true)), .load false 1, [.t 15]⟩,
      ⟨some 17, (some (14, true)), .fadr 3, [.t 1]⟩,
      ⟨some 18, (some (14, true)), .load false 1, [.t 17]⟩,
      ⟨some 19, (some (14, true)), .bin .eql, [.t 16, .t 18]⟩,
      ⟨some 20, none, .pick, [.t 14, .t 19, .c (.bool false)]⟩,
      ⟨some 3, none, .mv, [.t 20]⟩])
    .ret)) }

/-- tripwire/audit.sound -/
def c60 : CFn := { np := 5, res := [.t 10], body :=
    (.seq (.reg [⟨some 5, none, .box, [.t 0]⟩,
      ⟨some 6, none, .box, [.t 1]⟩,
      ⟨some 10, none, .mv, [.c (.bool false)]⟩])
    (.seq (.reg [⟨some 14, none, .fadr 0, [.t 6]⟩,
      ⟨some 15, none, .load false 1, [.t 14]⟩,
      ⟨some 16, none, .fadr 6, [.t 5]⟩,
      ⟨some 17, none, .load false 1, [.t 16]⟩,
      ⟨some 18, none, .bin .sub, [.t 15, .t 17]⟩,
      ⟨some 11, none, .mv, [.t 18]⟩])
    (.seq (.seq (.reg [⟨some 19, none, .mv, [.t 2]⟩,
      ⟨some 20, none, .mv, [.t 3]⟩,
      ⟨some 21, none, .mv, [.t 11]⟩,
      ⟨some 22, none, .fadr 0, [.t 6]⟩,
      ⟨some 23, none, .load false 1, [.t 22]⟩,
      ⟨some 24, none, .call 50, [.t 19, .t 20, .t 21, .t 23]⟩,
      ⟨some 25, none, .bin .eql, [.t 24, .c (.int .i64 2)]⟩])
    (.cond (.t 25) (.seq (.reg [⟨some 10, none, .mv, [.c (.bool true)]⟩])
    .ret) .skip))
    (.seq (.reg [⟨some 27, none, .mv, [.t 3]⟩,
      ⟨some 28, none, .fadr 1, [.t 6]⟩,
      ⟨some 29, none, .load false 1, [.t 28]⟩,
      ⟨some 30, none, .fadr 0, [.t 6]⟩,
      ⟨some 31, none, .load false 1, [.t 30]⟩,
      ⟨some 32, none, .call 63, [.t 27, .t 29, .t 31]⟩,
      ⟨some 26, none, .mv, [.t 32]⟩,
      ⟨some 33, none, .ext 0, [.t 26]⟩,
      ⟨some 34, none, .ext 1, [.t 26]⟩,
      ⟨some 12, none, .mv, [.t 33]⟩,
      ⟨some 13, none, .mv, [.t 34]⟩])
    (.seq (.reg [⟨some 35, none, .mv, [.t 13]⟩,
      ⟨some 36, none, .mv, [.t 35]⟩,
      ⟨some 37, (some (36, true)), .mv, [.t 12]⟩,
      ⟨some 38, (some (36, true)), .mv, [.t 11]⟩,
      ⟨some 39, (some (36, true)), .mv, [.t 4]⟩,
      ⟨some 40, (some (36, true)), .bin .sub, [.t 38, .t 39]⟩,
      ⟨some 41, (some (36, true)), .bin .geq, [.t 37, .t 40]⟩,
      ⟨some 42, none, .pick, [.t 36, .t 41, .c (.bool false)]⟩,
      ⟨some 10, none, .mv, [.t 42]⟩])
    .ret))))) }

/-- tripwire/audit.spoilt -/
def c50 : CFn := { np := 4, res := [.t 8], body :=
    (.seq (.reg [⟨some 8, none, .mv, [.c (.int .i64 0)]⟩])
    (.seq (.reg [⟨some 9, none, .alloc [(.bool false), (.bool false)], []⟩])
    (.seq (.seq (.reg [⟨some 17, none, .mv, [.t 0]⟩,
      ⟨some 18, none, .len, [.t 17]⟩,
      ⟨some 19, none, .mv, [.c (.int .i64 0)]⟩])
    (.block 0 (.loop [1, 2, 3, 9, 17, 18, 19] [9] [] (.seq (.reg [⟨some 20, none, .bin .lss, [.t 19, .t 18]⟩])
    (.seq (.cond (.t 20) .skip (.exit 0))
    (.seq (.block 1 (.seq (.reg [⟨some 21, none, .ladr 4, [.t 17, .t 19]⟩,
      ⟨some 22, none, .load true 4, [.t 21]⟩,
      ⟨some 11, none, .alloc [(.int .i64 0), (.bool false), (.bool false), (.str ByteArray.empty)], []⟩,
      ⟨none, none, .store 4, [.t 11, .t 22]⟩])
    (.seq (.seq (.reg [⟨some 24, none, .load true 4, [.t 11]⟩,
      ⟨some 25, none, .mv, [.t 1]⟩,
      ⟨some 26, none, .call 48, [.t 24, .t 25]⟩,
      ⟨some 23, none, .mv, [.t 26]⟩,
      ⟨some 27, none, .ext 0, [.t 23]⟩,
      ⟨some 28, none, .ext 1, [.t 23]⟩,
      ⟨some 12, none, .mv, [.t 27]⟩,
      ⟨some 13, none, .mv, [.t 28]⟩])
    (.seq (.reg [⟨some 29, none, .mv, [.t 13]⟩,
      ⟨some 30, none, .mv, [.t 29]⟩,
      ⟨some 31, (some (30, false)), .fadr 0, [.t 11]⟩,
      ⟨some 32, (some (30, false)), .load false 1, [.t 31]⟩,
      ⟨some 33, (some (30, false)), .mv, [.t 2]⟩,
      ⟨some 34, (some (30, false)), .bin .lss, [.t 32, .t 33]⟩,
      ⟨some 35, none, .pick, [.t 30, .c (.bool true), .t 34]⟩,
      ⟨some 36, none, .mv, [.t 35]⟩,
      ⟨some 37, (some (36, false)), .fadr 0, [.t 11]⟩,
      ⟨some 38, (some (36, false)), .load false 1, [.t 37]⟩,
      ⟨some 39, (some (36, false)), .mv, [.t 3]⟩,
      ⟨some 40, (some (36, false)), .bin .gtr, [.t 38, .t 39]⟩,
      ⟨some 41, none, .pick, [.t 36, .c (.bool true), .t 40]⟩])
    (.cond (.t 41) (.exit 1) .skip)))
    (.seq (.reg [⟨some 42, none, .fadr 1, [.t 11]⟩,
      ⟨some 43, none, .load false 1, [.t 42]⟩])
    (.cond (.t 43) (.reg [⟨some 44, none, .aadr 1 2, [.t 9, .c (.int .i64 1)]⟩,
      ⟨none, none, .store 1, [.t 44, .c (.bool true)]⟩]) (.reg [⟨some 45, none, .aadr 1 2, [.t 9, .c (.int .i64 0)]⟩,
      ⟨none, none, .store 1, [.t 45, .c (.bool true)]⟩]))))))
    (.reg [⟨some 46, none, .bin .add, [.t 19, .c (.int .i64 1)]⟩,
      ⟨some 19, none, .mv, [.t 46]⟩])))))))
    (.seq (.reg [⟨some 14, none, .mv, [.c (.int .i64 0)]⟩])
    (.seq (.seq (.reg [⟨some 47, none, .load true 2, [.t 9]⟩,
      ⟨some 48, none, .mv, [.c (.int .i64 0)]⟩])
    (.block 2 (.loop [14, 47, 48] [] [] (.seq (.reg [⟨some 49, none, .bin .lss, [.t 48, .c (.int .i64 2)]⟩])
    (.seq (.cond (.t 49) .skip (.exit 2))
    (.seq (.block 3 (.seq (.reg [⟨some 50, none, .ixa 1 2 false, [.t 47, .t 48]⟩,
      ⟨some 16, none, .mv, [.t 50]⟩])
    (.seq (.reg [⟨some 51, none, .mv, [.t 16]⟩])
    (.cond (.t 51) (.reg [⟨some 52, none, .mv, [.t 14]⟩,
      ⟨some 53, none, .bin .add, [.t 52, .c (.int .i64 1)]⟩,
      ⟨some 14, none, .mv, [.t 53]⟩]) .skip))))
    (.reg [⟨some 54, none, .bin .add, [.t 48, .c (.int .i64 1)]⟩,
      ⟨some 48, none, .mv, [.t 54]⟩])))))))
    (.seq (.reg [⟨some 55, none, .mv, [.t 14]⟩,
      ⟨some 8, none, .mv, [.t 55]⟩])
    .ret)))))) }

/-- tripwire/tripwireref38.Marks -/
def c25 : CFn := { np := 4, res := [.t 8], body :=
    (.seq (.reg [⟨some 8, none, .nil false 2 83, []⟩])
    (.seq (.reg [⟨some 13, none, .bsl true 2 83, []⟩,
      ⟨some 9, none, .mv, [.t 13]⟩])
    (.seq (.seq (.reg [⟨some 10, none, .mv, [.c (.int .i64 0)]⟩])
    (.block 0 (.loop [0, 1, 2, 3, 9, 10] [] [13] (.seq (.seq (.reg [⟨some 14, none, .mv, [.t 10]⟩,
      ⟨some 15, none, .mv, [.t 3]⟩,
      ⟨some 16, none, .len, [.t 15]⟩,
      ⟨some 17, none, .bin .lss, [.t 14, .t 16]⟩])
    (.cond (.t 17) .skip (.exit 0)))
    (.seq (.block 1 (.seq (.reg [⟨some 11, none, .mv, [.c (.int .i64 0)]⟩])
    (.block 2 (.loop [0, 1, 2, 3, 9, 10, 11] [] [13] (.seq (.seq (.reg [⟨some 20, none, .mv, [.t 3]⟩,
      ⟨some 21, none, .mv, [.t 10]⟩,
      ⟨some 22, none, .ladr 6, [.t 20, .t 21]⟩,
      ⟨some 23, none, .load true 6, [.t 22]⟩,
      ⟨some 24, none, .call 45, [.t 23]⟩,
      ⟨some 25, none, .mv, [.t 24]⟩,
      ⟨some 26, (some (25, true)), .mv, [.t 11]⟩,
      ⟨some 27, (some (25, true)), .mv, [.t 3]⟩,
      ⟨some 28, (some (25, true)), .mv, [.t 10]⟩,
      ⟨some 29, (some (25, true)), .ladr 6, [.t 27, .t 28]⟩,
      ⟨some 30, (some (25, true)), .fadr 4, [.t 29]⟩,
      ⟨some 31, (some (25, true)), .load false 1, [.t 30]⟩,
      ⟨some 32, (some (25, true)), .len, [.t 31]⟩,
      ⟨some 33, (some (25, true)), .bin .lss, [.t 26, .t 32]⟩,
      ⟨some 34, none, .pick, [.t 25, .t 33, .c (.bool false)]⟩])
    (.cond (.t 34) .skip (.exit 2)))
    (.seq (.block 3 (.seq (.reg [⟨some 37, none, .mv, [.t 3]⟩,
      ⟨some 38, none, .mv, [.t 10]⟩,
      ⟨some 39, none, .ladr 6, [.t 37, .t 38]⟩,
      ⟨some 40, none, .fadr 4, [.t 39]⟩,
      ⟨some 41, none, .load false 1, [.t 40]⟩,
      ⟨some 42, none, .mv, [.t 11]⟩,
      ⟨some 43, none, .ladr 5, [.t 41, .t 42]⟩,
      ⟨some 44, none, .load true 5, [.t 43]⟩,
      ⟨some 12, none, .alloc [(.int .i64 0), (.int .i64 0), (.int .i64 0), (.int .i64 0), (.str ByteArray.empty)], []⟩,
      ⟨none, none, .store 5, [.t 12, .t 44]⟩])
    (.seq (.reg [⟨some 45, none, .fadr 2, [.t 12]⟩,
      ⟨some 46, none, .load false 1, [.t 45]⟩,
      ⟨some 47, none, .mv, [.t 0]⟩,
      ⟨some 48, none, .bin .eql, [.t 46, .t 47]⟩,
      ⟨some 49, none, .mv, [.t 48]⟩,
      ⟨some 50, (some (49, true)), .fadr 1, [.t 12]⟩,
      ⟨some 51, (some (49, true)), .load false 1, [.t 50]⟩,
      ⟨some 52, (some (49, true)), .mv, [.t 1]⟩,
      ⟨some 53, (some (49, true)), .bin .eql, [.t 51, .t 52]⟩,
      ⟨some 54, none, .pick, [.t 49, .t 53, .c (.bool false)]⟩,
      ⟨some 55, none, .mv, [.t 54]⟩,
      ⟨some 56, (some (55, true)), .fadr 3, [.t 12]⟩,
      ⟨some 57, (some (55, true)), .load false 1, [.t 56]⟩,
      ⟨some 58, (some (55, true)), .mv, [.t 2]⟩,
      ⟨some 59, (some (55, true)), .bin .eql, [.t 57, .t 58]⟩,
      ⟨some 60, none, .pick, [.t 55, .t 59, .c (.bool false)]⟩])
    (.cond (.t 60) (.draw 10 [0, 0, 0, 6, 14, 30, 0, 64, 254, 510, 1023, 2047] [⟨some 61, none, .mv, [.t 9]⟩,
      ⟨some 62, none, .mv, [.t 3]⟩,
      ⟨some 63, none, .mv, [.t 10]⟩,
      ⟨some 64, none, .ladr 6, [.t 62, .t 63]⟩,
      ⟨some 65, none, .fadr 0, [.t 64]⟩,
      ⟨some 66, none, .load false 1, [.t 65]⟩,
      ⟨some 67, none, .fadr 4, [.t 12]⟩,
      ⟨some 68, none, .load false 1, [.t 67]⟩,
      ⟨some 69, none, .build [(.int .i64 0), (.str ByteArray.empty)] [(0, 1), (1, 1)], [.t 66, .t 68]⟩,
      ⟨some 70, none, .bsl false 2 83, [.t 69]⟩,
      ⟨some 71, none, .app false 2 24 83, [.t 61, .t 70]⟩,
      ⟨some 9, none, .mv, [.t 71]⟩]) .skip))))
    (.reg [⟨some 35, none, .mv, [.t 11]⟩,
      ⟨some 36, none, .bin .add, [.t 35, .c (.int .i64 1)]⟩,
      ⟨some 11, none, .mv, [.t 36]⟩])))))))
    (.reg [⟨some 18, none, .mv, [.t 10]⟩,
      ⟨some 19, none, .bin .add, [.t 18, .c (.int .i64 1)]⟩,
      ⟨some 10, none, .mv, [.t 19]⟩]))))))
    (.seq (.reg [⟨some 72, none, .mv, [.t 9]⟩,
      ⟨some 8, none, .mv, [.t 72]⟩])
    .ret)))) }

/-- tripwire/tripwireref38.counts -/
def c45 : CFn := { np := 1, res := [.t 2], body :=
    (.seq (.reg [⟨some 1, none, .box, [.t 0]⟩,
      ⟨some 2, none, .mv, [.c (.bool false)]⟩])
    (.seq (.reg [⟨some 3, none, .fadr 0, [.t 1]⟩,
      ⟨some 4, none, .load false 1, [.t 3]⟩,
      ⟨some 5, none, .bin .geq, [.t 4, .c (.int .i64 0)]⟩,
      ⟨some 6, none, .mv, [.t 5]⟩,
      ⟨some 7, (some (6, true)), .fadr 0, [.t 1]⟩,
      ⟨some 8, (some (6, true)), .load false 1, [.t 7]⟩,
      ⟨some 9, (some (6, true)), .bin .leq, [.t 8, .c (.int .i64 2147483647)]⟩,
      ⟨some 10, none, .pick, [.t 6, .t 9, .c (.bool false)]⟩,
      ⟨some 2, none, .mv, [.t 10]⟩])
    .ret)) }

/-- tripwire/tripwirelaw38.alike -/
def c23 : CFn := { np := 2, res := [.t 4], body :=
    (.seq (.reg [⟨some 4, none, .mv, [.c (.bool false)]⟩])
    (.seq (.seq (.reg [⟨some 6, none, .mv, [.t 0]⟩,
      ⟨some 7, none, .len, [.t 6]⟩,
      ⟨some 8, none, .mv, [.t 1]⟩,
      ⟨some 9, none, .len, [.t 8]⟩,
      ⟨some 10, none, .bin .neq, [.t 7, .t 9]⟩])
    (.cond (.t 10) (.seq (.reg [⟨some 4, none, .mv, [.c (.bool false)]⟩])
    .ret) .skip))
    (.seq (.seq (.reg [⟨some 5, none, .mv, [.c (.int .i64 0)]⟩])
    (.block 0 (.loop [0, 1, 5] [] [] (.seq (.seq (.reg [⟨some 11, none, .mv, [.t 5]⟩,
      ⟨some 12, none, .mv, [.t 0]⟩,
      ⟨some 13, none, .len, [.t 12]⟩,
      ⟨some 14, none, .bin .lss, [.t 11, .t 13]⟩])
    (.cond (.t 14) .skip (.exit 0)))
    (.seq (.block 1 (.seq (.draw 8 [0, 0, 3, 7, 0, 0, 48, 112, 255] [⟨some 17, none, .mv, [.t 0]⟩,
      ⟨some 18, none, .mv, [.t 5]⟩,
      ⟨some 19, none, .ladr 2, [.t 17, .t 18]⟩,
      ⟨some 20, none, .load true 2, [.t 19]⟩,
      ⟨some 21, none, .mv, [.t 1]⟩,
      ⟨some 22, none, .mv, [.t 5]⟩,
      ⟨some 23, none, .ladr 2, [.t 21, .t 22]⟩,
      ⟨some 24, none, .load true 2, [.t 23]⟩,
      ⟨some 25, none, .eq [(0, 0), (1, 2)] true, [.t 20, .t 24]⟩])
    (.cond (.t 25) (.seq (.reg [⟨some 4, none, .mv, [.c (.bool false)]⟩])
    .ret) .skip)))
    (.reg [⟨some 15, none, .mv, [.t 5]⟩,
      ⟨some 16, none, .bin .add, [.t 15, .c (.int .i64 1)]⟩,
      ⟨some 5, none, .mv, [.t 16]⟩]))))))
    (.seq (.reg [⟨some 4, none, .mv, [.c (.bool true)]⟩])
    .ret)))) }

/-- tripwire/tripwireref38.Wait -/
def c28 : CFn := { np := 2, res := [.t 4], body :=
    (.seq (.reg [⟨some 2, none, .box, [.t 0]⟩,
      ⟨some 4, none, .mv, [.c (.int .i64 0)]⟩])
    (.seq (.reg [⟨some 5, none, .mv, [.c (.int .i64 0)]⟩])
    (.seq (.seq (.reg [⟨some 6, none, .mv, [.c (.int .i64 0)]⟩])
    (.block 0 (.loop [1, 2, 5, 6] [2] [] (.seq (.seq (.reg [⟨some 9, none, .mv, [.t 6]⟩,
      ⟨some 10, none, .mv, [.t 1]⟩,
      ⟨some 11, none, .len, [.t 10]⟩,
      ⟨some 12, none, .bin .lss, [.t 9, .t 11]⟩])
    (.cond (.t 12) .skip (.exit 0)))
    (.seq (.block 1 (.seq (.reg [⟨some 7, none, .mv, [.c (.int .i64 0)]⟩])
    (.block 2 (.loop [1, 2, 5, 6, 7] [2] [] (.seq (.seq (.reg [⟨some 15, none, .mv, [.t 1]⟩,
      ⟨some 16, none, .mv, [.t 6]⟩,
      ⟨some 17, none, .ladr 6, [.t 15, .t 16]⟩,
      ⟨some 18, none, .load true 6, [.t 17]⟩,
      ⟨some 19, none, .call 45, [.t 18]⟩,
      ⟨some 20, none, .mv, [.t 19]⟩,
      ⟨some 21, (some (20, true)), .mv, [.t 7]⟩,
      ⟨some 22, (some (20, true)), .mv, [.t 1]⟩,
      ⟨some 23, (some (20, true)), .mv, [.t 6]⟩,
      ⟨some 24, (some (20, true)), .ladr 6, [.t 22, .t 23]⟩,
      ⟨some 25, (some (20, true)), .fadr 3, [.t 24]⟩,
      ⟨some 26, (some (20, true)), .load false 1, [.t 25]⟩,
      ⟨some 27, (some (20, true)), .len, [.t 26]⟩,
      ⟨some 28, (some (20, true)), .bin .lss, [.t 21, .t 27]⟩,
      ⟨some 29, none, .pick, [.t 20, .t 28, .c (.bool false)]⟩])
    (.cond (.t 29) .skip (.exit 2)))
    (.seq (.block 3 (.seq (.reg [⟨some 32, none, .mv, [.t 1]⟩,
      ⟨some 33, none, .mv, [.t 6]⟩,
      ⟨some 34, none, .ladr 6, [.t 32, .t 33]⟩,
      ⟨some 35, none, .fadr 3, [.t 34]⟩,
      ⟨some 36, none, .load false 1, [.t 35]⟩,
      ⟨some 37, none, .mv, [.t 7]⟩,
      ⟨some 38, none, .ladr 14, [.t 36, .t 37]⟩,
      ⟨some 39, none, .load true 14, [.t 38]⟩,
      ⟨some 8, none, .alloc [(.int .i64 0), (.int .i64 0), (.int .i64 0), (.bool false), (.int .i64 0), (.int .u8 0), (.int .u8 0), (.int .u8 0), (.int .u8 0), (.int .u8 0), (.int .u8 0), (.int .u8 0), (.int .u8 0), (.bool false)], []⟩,
      ⟨none, none, .store 14, [.t 8, .t 39]⟩])
    (.seq (.reg [⟨some 40, none, .fadr 2, [.t 8]⟩,
      ⟨some 41, none, .fadr 0, [.t 40]⟩,
      ⟨some 42, none, .load false 1, [.t 41]⟩,
      ⟨some 43, none, .fadr 4, [.t 2]⟩,
      ⟨some 44, none, .load false 1, [.t 43]⟩,
      ⟨some 45, none, .bin .eql, [.t 42, .t 44]⟩,
      ⟨some 46, none, .mv, [.t 45]⟩,
      ⟨some 47, (some (46, false)), .fadr 2, [.t 8]⟩,
      ⟨some 48, (some (46, false)), .fadr 0, [.t 47]⟩,
      ⟨some 49, (some (46, false)), .load false 1, [.t 48]⟩,
      ⟨some 50, (some (46, false)), .fadr 5, [.t 2]⟩,
      ⟨some 51, (some (46, false)), .load false 1, [.t 50]⟩,
      ⟨some 52, (some (46, false)), .bin .eql, [.t 49, .t 51]⟩,
      ⟨some 53, none, .pick, [.t 46, .c (.bool true), .t 52]⟩])
    (.cond (.t 53) (.draw 10 [0, 0, 0, 0, 12, 28, 60, 0, 0, 510, 1023, 2047] [⟨some 54, none, .mv, [.t 5]⟩,
      ⟨some 55, none, .load true 7, [.t 2]⟩,
      ⟨some 56, none, .mv, [.t 1]⟩,
      ⟨some 57, none, .mv, [.t 6]⟩,
      ⟨some 58, none, .ladr 6, [.t 56, .t 57]⟩,
      ⟨some 59, none, .fadr 0, [.t 58]⟩,
      ⟨some 60, none, .load false 1, [.t 59]⟩,
      ⟨some 61, none, .load true 14, [.t 8]⟩,
      ⟨some 62, none, .mv, [.t 1]⟩,
      ⟨some 63, none, .call 49, [.t 55, .t 60, .t 61, .t 62]⟩,
      ⟨some 64, none, .mx, [.t 54, .t 63]⟩,
      ⟨some 5, none, .mv, [.t 64]⟩]) .skip))))
    (.reg [⟨some 30, none, .mv, [.t 7]⟩,
      ⟨some 31, none, .bin .add, [.t 30, .c (.int .i64 1)]⟩,
      ⟨some 7, none, .mv, [.t 31]⟩])))))))
    (.reg [⟨some 13, none, .mv, [.t 6]⟩,
      ⟨some 14, none, .bin .add, [.t 13, .c (.int .i64 1)]⟩,
      ⟨some 6, none, .mv, [.t 14]⟩]))))))
    (.seq (.reg [⟨some 65, none, .mv, [.t 5]⟩,
      ⟨some 4, none, .mv, [.t 65]⟩])
    .ret)))) }

/-- tripwire/tripwireref38.Waited -/
def c49 : CFn := { np := 4, res := [.t 8], body :=
    (.seq (.reg [⟨some 4, none, .box, [.t 0]⟩,
      ⟨some 6, none, .box, [.t 2]⟩,
      ⟨some 8, none, .mv, [.c (.int .i64 0)]⟩])
    (.seq (.seq (.reg [⟨some 12, none, .fadr 13, [.t 6]⟩,
      ⟨some 13, none, .load false 1, [.t 12]⟩,
      ⟨some 14, none, .un .not, [.t 13]⟩,
      ⟨some 15, none, .mv, [.t 14]⟩,
      ⟨some 16, (some (15, false)), .fadr 0, [.t 6]⟩,
      ⟨some 17, (some (15, false)), .load false 1, [.t 16]⟩,
      ⟨some 18, (some (15, false)), .fadr 0, [.t 4]⟩,
      ⟨some 19, (some (15, false)), .load false 1, [.t 18]⟩,
      ⟨some 20, (some (15, false)), .bin .neq, [.t 17, .t 19]⟩,
      ⟨some 21, none, .pick, [.t 15, .c (.bool true), .t 20]⟩,
      ⟨some 22, none, .mv, [.t 21]⟩,
      ⟨some 23, (some (22, false)), .fadr 2, [.t 6]⟩,
      ⟨some 24, (some (22, false)), .fadr 1, [.t 23]⟩,
      ⟨some 25, (some (22, false)), .load false 1, [.t 24]⟩,
      ⟨some 26, none, .pick, [.t 22, .c (.bool true), .t 25]⟩])
    (.cond (.t 26) (.seq (.reg [⟨some 8, none, .mv, [.c (.int .i64 (-1))]⟩])
    .ret) .skip))
    (.seq (.reg [⟨some 9, none, .mv, [.c (.int .i64 (-1))]⟩])
    (.seq (.reg [⟨some 27, none, .fadr 0, [.t 4]⟩,
      ⟨some 28, none, .load false 1, [.t 27]⟩,
      ⟨some 29, none, .fadr 1, [.t 4]⟩,
      ⟨some 30, none, .load false 1, [.t 29]⟩,
      ⟨some 31, none, .mv, [.t 3]⟩,
      ⟨some 32, none, .call 25, [.c (.int .i64 7), .t 28, .t 30, .t 31]⟩,
      ⟨some 10, none, .mv, [.t 32]⟩])
    (.seq (.seq (.reg [⟨some 11, none, .mv, [.c (.int .i64 0)]⟩])
    (.block 0 (.loop [1, 4, 6, 9, 10, 11] [4, 6] [] (.seq (.seq (.reg [⟨some 33, none, .mv, [.t 11]⟩,
      ⟨some 34, none, .mv, [.t 10]⟩,
      ⟨some 35, none, .len, [.t 34]⟩,
      ⟨some 36, none, .bin .lss, [.t 33, .t 35]⟩])
    (.cond (.t 36) .skip (.exit 0)))
    (.seq (.block 1 (.seq (.draw 31 [0, 0, 3, 7, 15, 0, 0, 64, 224, 511, 1023, 2047, 2047, 8191, 16383, 32767, 2047, 131071, 262143, 524287, 1048575, 2097151, 4194303, 8388607, 8388607, 8388607, 58720255, 125829119, 260046847, 536870911, 8388607, 2147483647, 4294967295, 8589934591] [⟨some 39, none, .mv, [.t 10]⟩,
      ⟨some 40, none, .mv, [.t 11]⟩,
      ⟨some 41, none, .ladr 2, [.t 39, .t 40]⟩,
      ⟨some 42, none, .fadr 1, [.t 41]⟩,
      ⟨some 43, none, .load false 1, [.t 42]⟩,
      ⟨some 44, none, .load true 7, [.t 4]⟩,
      ⟨some 45, none, .fadr 2, [.t 6]⟩,
      ⟨some 46, none, .load true 11, [.t 45]⟩,
      ⟨some 47, none, .call 64, [.t 44, .t 46]⟩,
      ⟨some 48, none, .bin .eql, [.t 43, .t 47]⟩,
      ⟨some 49, none, .mv, [.t 48]⟩,
      ⟨some 50, (some (49, true)), .mv, [.t 10]⟩,
      ⟨some 51, (some (49, true)), .mv, [.t 11]⟩,
      ⟨some 52, (some (49, true)), .ladr 2, [.t 50, .t 51]⟩,
      ⟨some 53, (some (49, true)), .fadr 0, [.t 52]⟩,
      ⟨some 54, (some (49, true)), .load false 1, [.t 53]⟩,
      ⟨some 55, (some (49, true)), .mv, [.t 1]⟩,
      ⟨some 56, (some (49, true)), .bin .leq, [.t 54, .t 55]⟩,
      ⟨some 57, none, .pick, [.t 49, .t 56, .c (.bool false)]⟩,
      ⟨some 58, none, .mv, [.t 57]⟩,
      ⟨some 59, (some (58, true)), .mv, [.t 9]⟩,
      ⟨some 60, (some (58, true)), .bin .lss, [.t 59, .c (.int .i64 0)]⟩,
      ⟨some 61, (some (58, true)), .mv, [.t 60]⟩,
      ⟨some 62, (some (61, false)), .mv, [.t 1]⟩,
      ⟨some 63, (some (61, false)), .mv, [.t 10]⟩,
      ⟨some 64, (some (61, false)), .mv, [.t 11]⟩,
      ⟨some 65, (some (61, false)), .ladr 2, [.t 63, .t 64]⟩,
      ⟨some 66, (some (61, false)), .fadr 0, [.t 65]⟩,
      ⟨some 67, (some (61, false)), .load false 1, [.t 66]⟩,
      ⟨some 68, (some (61, false)), .bin .sub, [.t 62, .t 67]⟩,
      ⟨some 69, (some (61, false)), .mv, [.t 9]⟩,
      ⟨some 70, (some (61, false)), .bin .lss, [.t 68, .t 69]⟩,
      ⟨some 71, (some (58, true)), .pick, [.t 61, .c (.bool true), .t 70]⟩,
      ⟨some 72, none, .pick, [.t 58, .t 71, .c (.bool false)]⟩])
    (.cond (.t 72) (.reg [⟨some 73, none, .mv, [.t 1]⟩,
      ⟨some 74, none, .mv, [.t 10]⟩,
      ⟨some 75, none, .mv, [.t 11]⟩,
      ⟨some 76, none, .ladr 2, [.t 74, .t 75]⟩,
      ⟨some 77, none, .fadr 0, [.t 76]⟩,
      ⟨some 78, none, .load false 1, [.t 77]⟩,
      ⟨some 79, none, .bin .sub, [.t 73, .t 78]⟩,
      ⟨some 9, none, .mv, [.t 79]⟩]) .skip)))
    (.reg [⟨some 37, none, .mv, [.t 11]⟩,
      ⟨some 38, none, .bin .add, [.t 37, .c (.int .i64 1)]⟩,
      ⟨some 11, none, .mv, [.t 38]⟩]))))))
    (.seq (.reg [⟨some 80, none, .mv, [.t 9]⟩,
      ⟨some 8, none, .mv, [.t 80]⟩])
    .ret)))))) }

/-- tripwire/tripwireref38.Value -/
def c64 : CFn := { np := 2, res := [.t 4], body :=
    (.seq (.reg [⟨some 2, none, .box, [.t 0]⟩,
      ⟨some 3, none, .box, [.t 1]⟩,
      ⟨some 4, none, .mv, [.c (.str ⟨#[]⟩)]⟩])
    (.seq (.reg [⟨some 6, none, .load true 11, [.t 3]⟩,
      ⟨some 7, none, .call 70, [.t 6]⟩,
      ⟨some 5, none, .mv, [.t 7]⟩])
    (.seq (.seq (.reg [⟨some 8, none, .fadr 0, [.t 3]⟩,
      ⟨some 9, none, .load false 1, [.t 8]⟩,
      ⟨some 10, none, .fadr 4, [.t 2]⟩,
      ⟨some 11, none, .load false 1, [.t 10]⟩,
      ⟨some 12, none, .bin .neq, [.t 9, .t 11]⟩])
    (.cond (.t 12) (.reg [⟨some 13, none, .mv, [.t 5]⟩,
      ⟨some 14, none, .call 72, [.t 13]⟩,
      ⟨some 5, none, .mv, [.t 14]⟩]) .skip))
    (.seq (.reg [⟨some 15, none, .mv, [.t 5]⟩,
      ⟨some 16, none, .b2s, [.t 15]⟩,
      ⟨some 4, none, .mv, [.t 16]⟩])
    .ret)))) }

/-- tripwire/tripwireref04.Bytes -/
def c70 : CFn := { np := 1, res := [.t 2], body :=
    (.seq (.reg [⟨some 1, none, .box, [.t 0]⟩,
      ⟨some 2, none, .nil false 1 5, []⟩])
    (.seq (.reg [⟨some 5, none, .bsl true 1 5, []⟩,
      ⟨some 3, none, .mv, [.t 5]⟩])
    (.seq (.seq (.reg [⟨some 6, none, .load true 11, [.t 1]⟩,
      ⟨some 7, none, .call 69, [.t 6]⟩,
      ⟨some 8, none, .bin .neq, [.t 7, .c (.int .i64 0)]⟩,
      ⟨some 9, none, .mv, [.t 8]⟩,
      ⟨some 10, (some (9, false)), .fadr 1, [.t 1]⟩,
      ⟨some 11, (some (9, false)), .load false 1, [.t 10]⟩,
      ⟨some 12, none, .pick, [.t 9, .c (.bool true), .t 11]⟩])
    (.cond (.t 12) (.seq (.reg [⟨some 13, none, .mv, [.t 3]⟩,
      ⟨some 2, none, .mv, [.t 13]⟩])
    .ret) .skip))
    (.seq (.seq (.reg [⟨some 4, none, .mv, [.c (.int .i64 0)]⟩])
    (.block 0 (.loop [1, 3, 4] [1] [5] (.seq (.seq (.reg [⟨some 14, none, .mv, [.t 4]⟩,
      ⟨some 15, none, .fadr 2, [.t 1]⟩,
      ⟨some 16, none, .load false 1, [.t 15]⟩,
      ⟨some 17, none, .bin .lss, [.t 14, .t 16]⟩])
    (.cond (.t 17) .skip (.exit 0)))
    (.seq (.block 1 (.reg [⟨some 20, none, .mv, [.t 3]⟩,
      ⟨some 21, none, .mv, [.t 4]⟩,
      ⟨some 22, none, .fadr 3, [.t 1]⟩,
      ⟨some 23, none, .aadr 1 8, [.t 22, .t 21]⟩,
      ⟨some 24, none, .load false 1, [.t 23]⟩,
      ⟨some 25, none, .bsl false 1 5, [.t 24]⟩,
      ⟨some 26, none, .app false 1 1 5, [.t 20, .t 25]⟩,
      ⟨some 3, none, .mv, [.t 26]⟩]))
    (.reg [⟨some 18, none, .mv, [.t 4]⟩,
      ⟨some 19, none, .bin .add, [.t 18, .c (.int .i64 1)]⟩,
      ⟨some 4, none, .mv, [.t 19]⟩]))))))
    (.seq (.reg [⟨some 27, none, .mv, [.t 3]⟩,
      ⟨some 2, none, .mv, [.t 27]⟩])
    .ret))))) }

/-- tripwire/tripwireref04.Check -/
def c69 : CFn := { np := 1, res := [.t 2], body :=
    (.seq (.reg [⟨some 1, none, .box, [.t 0]⟩,
      ⟨some 2, none, .mv, [.c (.int .i64 0)]⟩])
    (.seq (.seq (.reg [⟨some 4, none, .fadr 0, [.t 1]⟩,
      ⟨some 5, none, .load false 1, [.t 4]⟩,
      ⟨some 6, none, .bin .lss, [.t 5, .c (.int .i64 0)]⟩,
      ⟨some 7, none, .mv, [.t 6]⟩,
      ⟨some 8, (some (7, false)), .fadr 0, [.t 1]⟩,
      ⟨some 9, (some (7, false)), .load false 1, [.t 8]⟩,
      ⟨some 10, (some (7, false)), .bin .gtr, [.t 9, .c (.int .i64 2047)]⟩,
      ⟨some 11, none, .pick, [.t 7, .c (.bool true), .t 10]⟩])
    (.cond (.t 11) (.seq (.reg [⟨some 2, none, .mv, [.c (.int .i64 3)]⟩])
    .ret) .skip))
    (.seq (.seq (.reg [⟨some 12, none, .fadr 2, [.t 1]⟩,
      ⟨some 13, none, .load false 1, [.t 12]⟩,
      ⟨some 14, none, .bin .lss, [.t 13, .c (.int .i64 0)]⟩,
      ⟨some 15, none, .mv, [.t 14]⟩,
      ⟨some 16, (some (15, false)), .fadr 2, [.t 1]⟩,
      ⟨some 17, (some (15, false)), .load false 1, [.t 16]⟩,
      ⟨some 18, (some (15, false)), .bin .gtr, [.t 17, .c (.int .i64 8)]⟩,
      ⟨some 19, none, .pick, [.t 15, .c (.bool true), .t 18]⟩])
    (.cond (.t 19) (.seq (.reg [⟨some 2, none, .mv, [.c (.int .i64 11)]⟩])
    .ret) .skip))
    (.seq (.seq (.reg [⟨some 3, none, .mv, [.c (.int .i64 0)]⟩])
    (.block 0 (.loop [1, 3] [1] [] (.seq (.seq (.reg [⟨some 20, none, .mv, [.t 3]⟩,
      ⟨some 21, none, .bin .lss, [.t 20, .c (.int .i64 8)]⟩])
    (.cond (.t 21) .skip (.exit 0)))
    (.seq (.block 1 (.seq (.reg [⟨some 24, none, .fadr 1, [.t 1]⟩,
      ⟨some 25, none, .load false 1, [.t 24]⟩,
      ⟨some 26, none, .mv, [.t 25]⟩,
      ⟨some 27, (some (26, false)), .mv, [.t 3]⟩,
      ⟨some 28, (some (26, false)), .fadr 2, [.t 1]⟩,
      ⟨some 29, (some (26, false)), .load false 1, [.t 28]⟩,
      ⟨some 30, (some (26, false)), .bin .geq, [.t 27, .t 29]⟩,
      ⟨some 31, none, .pick, [.t 26, .c (.bool true), .t 30]⟩,
      ⟨some 32, none, .mv, [.t 31]⟩,
      ⟨some 33, (some (32, true)), .mv, [.t 3]⟩,
      ⟨some 34, (some (32, true)), .fadr 3, [.t 1]⟩,
      ⟨some 35, (some (32, true)), .aadr 1 8, [.t 34, .t 33]⟩,
      ⟨some 36, (some (32, true)), .load false 1, [.t 35]⟩,
      ⟨some 37, (some (32, true)), .bin .neq, [.t 36, .c (.int .u8 0)]⟩,
      ⟨some 38, none, .pick, [.t 32, .t 37, .c (.bool false)]⟩])
    (.cond (.t 38) (.seq (.reg [⟨some 2, none, .mv, [.c (.int .i64 4)]⟩])
    .ret) .skip)))
    (.reg [⟨some 22, none, .mv, [.t 3]⟩,
      ⟨some 23, none, .bin .add, [.t 22, .c (.int .i64 1)]⟩,
      ⟨some 3, none, .mv, [.t 23]⟩]))))))
    (.seq (.reg [⟨some 2, none, .mv, [.c (.int .i64 0)]⟩])
    .ret))))) }

/-- tripwire/tripwireref02.Flip -/
def c72 : CFn := { np := 1, res := [.t 2], body :=
    (.seq (.reg [⟨some 2, none, .nil false 1 5, []⟩])
    (.seq (.reg [⟨some 5, none, .bsl true 1 5, []⟩,
      ⟨some 3, none, .mv, [.t 5]⟩])
    (.seq (.seq (.reg [⟨some 4, none, .mv, [.c (.int .i64 0)]⟩])
    (.block 0 (.loop [0, 3, 4] [] [5] (.seq (.seq (.reg [⟨some 6, none, .mv, [.t 4]⟩,
      ⟨some 7, none, .mv, [.t 0]⟩,
      ⟨some 8, none, .len, [.t 7]⟩,
      ⟨some 9, none, .bin .lss, [.t 6, .t 8]⟩])
    (.cond (.t 9) .skip (.exit 0)))
    (.seq (.block 1 (.reg [⟨some 12, none, .mv, [.t 3]⟩,
      ⟨some 13, none, .mv, [.t 0]⟩,
      ⟨some 14, none, .mv, [.t 4]⟩,
      ⟨some 15, none, .ladr 1, [.t 13, .t 14]⟩,
      ⟨some 16, none, .load false 1, [.t 15]⟩,
      ⟨some 17, none, .bin .sub, [.c (.int .u8 255), .t 16]⟩,
      ⟨some 18, none, .bsl false 1 5, [.t 17]⟩,
      ⟨some 19, none, .app false 1 1 5, [.t 12, .t 18]⟩,
      ⟨some 3, none, .mv, [.t 19]⟩]))
    (.reg [⟨some 10, none, .mv, [.t 4]⟩,
      ⟨some 11, none, .bin .add, [.t 10, .c (.int .i64 1)]⟩,
      ⟨some 4, none, .mv, [.t 11]⟩]))))))
    (.seq (.reg [⟨some 20, none, .mv, [.t 3]⟩,
      ⟨some 2, none, .mv, [.t 20]⟩])
    .ret)))) }

/-- tripwire/audit.Spoilt -/
def c29 : CFn := { np := 4, res := [.t 8], body :=
    (.seq (.reg [⟨some 4, none, .box, [.t 0]⟩,
      ⟨some 8, none, .mv, [.c (.int .i64 0)]⟩])
    (.seq (.draw 8 [0, 0, 3, 0, 0, 31, 0, 0, 255, 511] [⟨some 9, none, .load true 7, [.t 4]⟩,
      ⟨some 10, none, .mv, [.t 3]⟩,
      ⟨some 11, none, .call 47, [.t 9, .t 10]⟩,
      ⟨some 12, none, .load true 7, [.t 4]⟩,
      ⟨some 13, none, .mv, [.t 3]⟩,
      ⟨some 14, none, .call 24, [.t 12, .t 13]⟩,
      ⟨some 15, none, .mv, [.t 1]⟩,
      ⟨some 16, none, .mv, [.t 2]⟩,
      ⟨some 17, none, .call 50, [.t 11, .t 14, .t 15, .t 16]⟩,
      ⟨some 8, none, .mv, [.t 17]⟩])
    .ret)) }

/-- tripwire/tripwireref38.Spoilt -/
def c30 : CFn := { np := 4, res := [.t 8], body :=
    (.seq (.reg [⟨some 4, none, .box, [.t 0]⟩,
      ⟨some 8, none, .mv, [.c (.int .i64 0)]⟩])
    (.seq (.reg [⟨some 9, none, .mv, [.c (.int .i64 0)]⟩])
    (.seq (.seq (.reg [⟨some 10, none, .load true 7, [.t 4]⟩,
      ⟨some 11, none, .fadr 4, [.t 4]⟩,
      ⟨some 12, none, .load false 1, [.t 11]⟩,
      ⟨some 13, none, .mv, [.t 1]⟩,
      ⟨some 14, none, .mv, [.t 2]⟩,
      ⟨some 15, none, .mv, [.t 3]⟩,
      ⟨some 16, none, .call 51, [.t 10, .t 12, .t 13, .t 14, .t 15]⟩])
    (.cond (.t 16) (.reg [⟨some 17, none, .mv, [.t 9]⟩,
      ⟨some 18, none, .bin .add, [.t 17, .c (.int .i64 1)]⟩,
      ⟨some 9, none, .mv, [.t 18]⟩]) .skip))
    (.seq (.seq (.reg [⟨some 19, none, .fadr 5, [.t 4]⟩,
      ⟨some 20, none, .load false 1, [.t 19]⟩,
      ⟨some 21, none, .fadr 4, [.t 4]⟩,
      ⟨some 22, none, .load false 1, [.t 21]⟩,
      ⟨some 23, none, .bin .neq, [.t 20, .t 22]⟩,
      ⟨some 24, none, .mv, [.t 23]⟩,
      ⟨some 25, (some (24, true)), .load true 7, [.t 4]⟩,
      ⟨some 26, (some (24, true)), .fadr 5, [.t 4]⟩,
      ⟨some 27, (some (24, true)), .load false 1, [.t 26]⟩,
      ⟨some 28, (some (24, true)), .mv, [.t 1]⟩,
      ⟨some 29, (some (24, true)), .mv, [.t 2]⟩,
      ⟨some 30, (some (24, true)), .mv, [.t 3]⟩,
      ⟨some 31, (some (24, true)), .call 51, [.t 25, .t 27, .t 28, .t 29, .t 30]⟩,
      ⟨some 32, none, .pick, [.t 24, .t 31, .c (.bool false)]⟩])
    (.cond (.t 32) (.reg [⟨some 33, none, .mv, [.t 9]⟩,
      ⟨some 34, none, .bin .add, [.t 33, .c (.int .i64 1)]⟩,
      ⟨some 9, none, .mv, [.t 34]⟩]) .skip))
    (.seq (.reg [⟨some 35, none, .mv, [.t 9]⟩,
      ⟨some 8, none, .mv, [.t 35]⟩])
    .ret))))) }

/-- tripwire/tripwireref38.one -/
def c51 : CFn := { np := 5, res := [.t 10], body :=
    (.seq (.reg [⟨some 5, none, .box, [.t 0]⟩,
      ⟨some 10, none, .mv, [.c (.bool false)]⟩])
    (.seq (.seq (.reg [⟨some 11, none, .mv, [.c (.int .i64 0)]⟩])
    (.block 0 (.loop [1, 2, 3, 4, 5, 11] [5] [] (.seq (.seq (.reg [⟨some 14, none, .mv, [.t 11]⟩,
      ⟨some 15, none, .mv, [.t 4]⟩,
      ⟨some 16, none, .len, [.t 15]⟩,
      ⟨some 17, none, .bin .lss, [.t 14, .t 16]⟩])
    (.cond (.t 17) .skip (.exit 0)))
    (.seq (.block 1 (.seq (.seq (.reg [⟨some 20, none, .mv, [.t 4]⟩,
      ⟨some 21, none, .mv, [.t 11]⟩,
      ⟨some 22, none, .ladr 6, [.t 20, .t 21]⟩,
      ⟨some 23, none, .load true 6, [.t 22]⟩,
      ⟨some 24, none, .call 45, [.t 23]⟩,
      ⟨some 25, none, .un .not, [.t 24]⟩,
      ⟨some 26, none, .mv, [.t 25]⟩,
      ⟨some 27, (some (26, false)), .mv, [.t 4]⟩,
      ⟨some 28, (some (26, false)), .mv, [.t 11]⟩,
      ⟨some 29, (some (26, false)), .ladr 6, [.t 27, .t 28]⟩,
      ⟨some 30, (some (26, false)), .fadr 0, [.t 29]⟩,
      ⟨some 31, (some (26, false)), .load false 1, [.t 30]⟩,
      ⟨some 32, (some (26, false)), .mv, [.t 2]⟩,
      ⟨some 33, (some (26, false)), .bin .lss, [.t 31, .t 32]⟩,
      ⟨some 34, none, .pick, [.t 26, .c (.bool true), .t 33]⟩,
      ⟨some 35, none, .mv, [.t 34]⟩,
      ⟨some 36, (some (35, false)), .mv, [.t 4]⟩,
      ⟨some 37, (some (35, false)), .mv, [.t 11]⟩,
      ⟨some 38, (some (35, false)), .ladr 6, [.t 36, .t 37]⟩,
      ⟨some 39, (some (35, false)), .fadr 0, [.t 38]⟩,
      ⟨some 40, (some (35, false)), .load false 1, [.t 39]⟩,
      ⟨some 41, (some (35, false)), .mv, [.t 3]⟩,
      ⟨some 42, (some (35, false)), .bin .gtr, [.t 40, .t 41]⟩,
      ⟨some 43, none, .pick, [.t 35, .c (.bool true), .t 42]⟩])
    (.cond (.t 43) (.exit 1) .skip))
    (.seq (.reg [⟨some 12, none, .mv, [.c (.int .i64 0)]⟩])
    (.block 2 (.loop [1, 2, 3, 4, 5, 11, 12] [5] [] (.seq (.seq (.reg [⟨some 44, none, .mv, [.t 12]⟩,
      ⟨some 45, none, .mv, [.t 4]⟩,
      ⟨some 46, none, .mv, [.t 11]⟩,
      ⟨some 47, none, .ladr 6, [.t 45, .t 46]⟩,
      ⟨some 48, none, .fadr 3, [.t 47]⟩,
      ⟨some 49, none, .load false 1, [.t 48]⟩,
      ⟨some 50, none, .len, [.t 49]⟩,
      ⟨some 51, none, .bin .lss, [.t 44, .t 50]⟩])
    (.cond (.t 51) .skip (.exit 2)))
    (.seq (.block 3 (.seq (.reg [⟨some 54, none, .mv, [.t 4]⟩,
      ⟨some 55, none, .mv, [.t 11]⟩,
      ⟨some 56, none, .ladr 6, [.t 54, .t 55]⟩,
      ⟨some 57, none, .fadr 3, [.t 56]⟩,
      ⟨some 58, none, .load false 1, [.t 57]⟩,
      ⟨some 59, none, .mv, [.t 12]⟩,
      ⟨some 60, none, .ladr 14, [.t 58, .t 59]⟩,
      ⟨some 61, none, .load true 14, [.t 60]⟩,
      ⟨some 13, none, .alloc [(.int .i64 0), (.int .i64 0), (.int .i64 0), (.bool false), (.int .i64 0), (.int .u8 0), (.int .u8 0), (.int .u8 0), (.int .u8 0), (.int .u8 0), (.int .u8 0), (.int .u8 0), (.int .u8 0), (.bool false)], []⟩,
      ⟨none, none, .store 14, [.t 13, .t 61]⟩])
    (.seq (.draw 14 [0, 1, 3, 0, 15, 31, 63, 63, 63, 447, 959, 1983, 63, 63, 16383, 32767, 65535] [⟨some 62, none, .fadr 2, [.t 13]⟩,
      ⟨some 63, none, .fadr 0, [.t 62]⟩,
      ⟨some 64, none, .load false 1, [.t 63]⟩,
      ⟨some 65, none, .mv, [.t 1]⟩,
      ⟨some 66, none, .bin .eql, [.t 64, .t 65]⟩,
      ⟨some 67, none, .mv, [.t 66]⟩,
      ⟨some 68, (some (67, true)), .load true 7, [.t 5]⟩,
      ⟨some 69, (some (67, true)), .mv, [.t 4]⟩,
      ⟨some 70, (some (67, true)), .mv, [.t 11]⟩,
      ⟨some 71, (some (67, true)), .ladr 6, [.t 69, .t 70]⟩,
      ⟨some 72, (some (67, true)), .fadr 0, [.t 71]⟩,
      ⟨some 73, (some (67, true)), .load false 1, [.t 72]⟩,
      ⟨some 74, (some (67, true)), .load true 14, [.t 13]⟩,
      ⟨some 75, (some (67, true)), .mv, [.t 4]⟩,
      ⟨some 76, (some (67, true)), .call 49, [.t 68, .t 73, .t 74, .t 75]⟩,
      ⟨some 77, (some (67, true)), .bin .lss, [.t 76, .c (.int .i64 0)]⟩,
      ⟨some 78, none, .pick, [.t 67, .t 77, .c (.bool false)]⟩])
    (.cond (.t 78) (.seq (.reg [⟨some 10, none, .mv, [.c (.bool true)]⟩])
    .ret) .skip))))
    (.reg [⟨some 52, none, .mv, [.t 12]⟩,
      ⟨some 53, none, .bin .add, [.t 52, .c (.int .i64 1)]⟩,
      ⟨some 12, none, .mv, [.t 53]⟩]))))))))
    (.reg [⟨some 18, none, .mv, [.t 11]⟩,
      ⟨some 19, none, .bin .add, [.t 18, .c (.int .i64 1)]⟩,
      ⟨some 11, none, .mv, [.t 19]⟩]))))))
    (.seq (.reg [⟨some 10, none, .mv, [.c (.bool false)]⟩])
    .ret))) }

theorem k5 : chkAt Try.prog (5, c5) = true := by kernel_rfl
theorem k21 : chkAt Try.prog (21, c21) = true := by kernel_rfl
theorem k22 : chkAt Try.prog (22, c22) = true := by kernel_rfl
theorem k42 : chkAt Try.prog (42, c42) = true := by kernel_rfl
theorem k59 : chkAt Try.prog (59, c59) = true := by kernel_rfl
theorem k47 : chkAt Try.prog (47, c47) = true := by kernel_rfl
theorem k61 : chkAt Try.prog (61, c61) = true := by kernel_rfl
theorem k62 : chkAt Try.prog (62, c62) = true := by kernel_rfl
theorem k78 : chkAt Try.prog (78, c78) = true := by kernel_rfl
theorem k96 : chkAt Try.prog (96, c96) = true := by kernel_rfl
theorem k89 : chkAt Try.prog (89, c89) = true := by kernel_rfl
theorem k79 : chkAt Try.prog (79, c79) = true := by kernel_rfl
theorem k24 : chkAt Try.prog (24, c24) = true := by kernel_rfl
theorem k43 : chkAt Try.prog (43, c43) = true := by kernel_rfl
theorem k44 : chkAt Try.prog (44, c44) = true := by kernel_rfl
theorem k27 : chkAt Try.prog (27, c27) = true := by kernel_rfl
theorem k48 : chkAt Try.prog (48, c48) = true := by kernel_rfl
theorem k63 : chkAt Try.prog (63, c63) = true := by kernel_rfl
theorem k26 : chkAt Try.prog (26, c26) = true := by kernel_rfl
theorem k46 : chkAt Try.prog (46, c46) = true := by kernel_rfl
theorem k60 : chkAt Try.prog (60, c60) = true := by kernel_rfl
theorem k50 : chkAt Try.prog (50, c50) = true := by kernel_rfl
theorem k25 : chkAt Try.prog (25, c25) = true := by kernel_rfl
theorem k45 : chkAt Try.prog (45, c45) = true := by kernel_rfl
theorem k23 : chkAt Try.prog (23, c23) = true := by kernel_rfl
theorem k28 : chkAt Try.prog (28, c28) = true := by kernel_rfl
theorem k49 : chkAt Try.prog (49, c49) = true := by kernel_rfl
theorem k64 : chkAt Try.prog (64, c64) = true := by kernel_rfl
theorem k70 : chkAt Try.prog (70, c70) = true := by kernel_rfl
theorem k69 : chkAt Try.prog (69, c69) = true := by kernel_rfl
theorem k72 : chkAt Try.prog (72, c72) = true := by kernel_rfl
theorem k29 : chkAt Try.prog (29, c29) = true := by kernel_rfl
theorem k30 : chkAt Try.prog (30, c30) = true := by kernel_rfl
theorem k51 : chkAt Try.prog (51, c51) = true := by kernel_rfl
def codes : List (Nat × CFn) := [(5, c5), (21, c21), (22, c22), (42, c42), (59, c59), (47, c47), (61, c61), (62, c62), (78, c78), (96, c96), (89, c89), (79, c79), (24, c24), (43, c43), (44, c44), (27, c27), (48, c48), (63, c63), (26, c26), (46, c46), (60, c60), (50, c50), (25, c25), (45, c45), (23, c23), (28, c28), (49, c49), (64, c64), (70, c70), (69, c69), (72, c72), (29, c29), (30, c30), (51, c51)]
end Go.Proofs.Ytbbpkkeaddbcnaa.ZIM.AL
