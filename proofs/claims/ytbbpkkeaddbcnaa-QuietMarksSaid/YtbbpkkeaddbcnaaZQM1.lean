/- The compact codes of what QuietMarks reaches. -/
import Derived.Test.YtbbpkkeaddbcnaaZIM18
import Derived.Test.YtbbpkkeaddbcnaaProg
import Derived.KernelRfl
namespace Go.Proofs.Ytbbpkkeaddbcnaa.ZIM.QM
open Go.Proofs.Ytbbpkkeaddbcnaa.ZIM

/-- tripwire/tripwirelaw43.QuietMarks -/
def c4 : CFn := { np := 2, res := [.t 4], body :=
    (.seq (.reg [⟨some 4, none, .mv, [.c (.bool false)]⟩])
    (.seq (.reg [⟨some 8, none, .mv, [.t 0]⟩,
      ⟨some 9, none, .mv, [.t 0]⟩,
      ⟨some 10, none, .len, [.t 9]⟩,
      ⟨some 11, none, .mn, [.t 10, .c (.int .i64 8)]⟩,
      ⟨some 12, none, .slcl 1 false true, [.t 8, .t 11]⟩,
      ⟨some 0, none, .mv, [.t 12]⟩])
    (.seq (.reg [⟨some 13, none, .bsl true 6 53, []⟩,
      ⟨some 5, none, .mv, [.t 13]⟩])
    (.seq (.seq (.reg [⟨some 6, none, .mv, [.c (.int .i64 0)]⟩])
    (.block 0 (.loop [0, 1, 5, 6] [] [13] (.seq (.seq (.reg [⟨some 14, none, .mv, [.t 6]⟩,
      ⟨some 15, none, .mv, [.t 1]⟩,
      ⟨some 16, none, .len, [.t 15]⟩,
      ⟨some 17, none, .bin .lss, [.t 14, .t 16]⟩,
      ⟨some 18, none, .mv, [.t 17]⟩,
      ⟨some 19, (some (18, true)), .mv, [.t 6]⟩,
      ⟨some 20, (some (18, true)), .bin .lss, [.t 19, .c (.int .i64 20)]⟩,
      ⟨some 21, none, .pick, [.t 18, .t 20, .c (.bool false)]⟩])
    (.cond (.t 21) .skip (.exit 0)))
    (.seq (.block 1 (.seq (.reg [⟨some 24, none, .mv, [.t 1]⟩,
      ⟨some 25, none, .mv, [.t 6]⟩,
      ⟨some 26, none, .ladr 6, [.t 24, .t 25]⟩,
      ⟨some 27, none, .load true 6, [.t 26]⟩,
      ⟨some 7, none, .alloc [(.int .i64 0), (.lst none true 1 []), (.lst none true 12 []), (.lst none true 14 []), (.lst none true 5 []), (.int .i64 0)], []⟩,
      ⟨none, none, .store 6, [.t 7, .t 27]⟩])
    (.seq (.reg [⟨some 28, none, .fadr 4, [.t 7]⟩,
      ⟨some 29, none, .load false 1, [.t 28]⟩,
      ⟨some 30, none, .fadr 4, [.t 7]⟩,
      ⟨some 31, none, .load false 1, [.t 30]⟩,
      ⟨some 32, none, .len, [.t 31]⟩,
      ⟨some 33, none, .mn, [.t 32, .c (.int .i64 8)]⟩,
      ⟨some 34, none, .slcl 5 false true, [.t 29, .t 33]⟩,
      ⟨some 35, none, .fadr 4, [.t 7]⟩,
      ⟨none, none, .store 1, [.t 35, .t 34]⟩])
    (.reg [⟨some 36, none, .mv, [.t 5]⟩,
      ⟨some 37, none, .load true 6, [.t 7]⟩,
      ⟨some 38, none, .bsl false 6 53, [.t 37]⟩,
      ⟨some 39, none, .app false 6 112 53, [.t 36, .t 38]⟩,
      ⟨some 5, none, .mv, [.t 39]⟩]))))
    (.reg [⟨some 22, none, .mv, [.t 6]⟩,
      ⟨some 23, none, .bin .add, [.t 22, .c (.int .i64 1)]⟩,
      ⟨some 6, none, .mv, [.t 23]⟩]))))))
    (.seq (.reg [⟨some 40, none, .call 17, []⟩,
      ⟨some 41, none, .mv, [.t 40]⟩,
      ⟨some 42, (some (41, true)), .mv, [.t 0]⟩,
      ⟨some 43, (some (41, true)), .mv, [.t 5]⟩,
      ⟨some 44, (some (41, true)), .call 19, [.t 42, .t 43]⟩,
      ⟨some 45, (some (41, true)), .mv, [.t 0]⟩,
      ⟨some 46, (some (41, true)), .mv, [.t 5]⟩,
      ⟨some 47, (some (41, true)), .call 20, [.t 45, .t 46]⟩,
      ⟨some 48, (some (41, true)), .call 18, [.t 44, .t 47]⟩,
      ⟨some 49, none, .pick, [.t 41, .t 48, .c (.bool false)]⟩,
      ⟨some 4, none, .mv, [.t 49]⟩])
    .ret))))) }

/-- tripwire/tripwirelaw43.live -/
def c17 : CFn := { np := 0, res := [.t 0], body :=
    (.seq (.reg [⟨some 0, none, .mv, [.c (.bool false)]⟩])
    (.seq (.reg [⟨some 3, none, .build [(.int .i64 0), (.int .i64 0), (.int .i64 0), (.int .i64 0), (.int .i64 0), (.int .i64 0), (.int .i64 0), (.bool false), (.bool false), (.str ByteArray.empty), (.int .i64 0), (.int .i64 0), (.int .i64 0)] [(0, 1)], [.c (.int .i64 2)]⟩,
      ⟨some 4, none, .build [(.int .i64 0), (.int .i64 0), (.int .i64 0), (.int .i64 0), (.int .i64 0), (.int .i64 0), (.int .i64 0), (.bool false), (.bool false), (.str ByteArray.empty), (.int .i64 0), (.int .i64 0), (.int .i64 0)] [(0, 1)], [.c (.int .i64 1)]⟩,
      ⟨some 5, none, .bsl false 13 34, [.t 3, .t 4]⟩,
      ⟨some 6, none, .build [(.int .i64 0), (.int .i64 0), (.int .u8 0), (.int .i64 0), (.int .i64 0), (.bool false), (.int .i64 0), (.int .u8 0), (.int .u8 0), (.int .u8 0), (.int .u8 0), (.int .u8 0), (.int .u8 0), (.int .u8 0), (.int .u8 0)] [(0, 1)], [.c (.int .i64 1)]⟩,
      ⟨some 7, none, .bsl false 15 96, [.t 6]⟩,
      ⟨some 8, none, .build [(.lst none true 13 []), (.lst none true 15 [])] [(0, 1), (1, 1)], [.t 5, .t 7]⟩,
      ⟨some 9, none, .bsl false 2 43, [.t 8]⟩,
      ⟨some 1, none, .mv, [.t 9]⟩])
    (.seq (.reg [⟨some 10, none, .mv, [.t 1]⟩,
      ⟨some 11, none, .call 7, [.t 10]⟩,
      ⟨some 2, none, .mv, [.t 11]⟩])
    (.seq (.reg [⟨some 12, none, .mv, [.t 2]⟩,
      ⟨some 13, none, .len, [.t 12]⟩,
      ⟨some 14, none, .bin .eql, [.t 13, .c (.int .i64 1)]⟩,
      ⟨some 15, none, .mv, [.t 14]⟩,
      ⟨some 16, (some (15, true)), .mv, [.t 2]⟩,
      ⟨some 17, (some (15, true)), .ladr 2, [.t 16, .c (.int .i64 0)]⟩,
      ⟨some 18, (some (15, true)), .fadr 0, [.t 17]⟩,
      ⟨some 19, (some (15, true)), .load false 1, [.t 18]⟩,
      ⟨some 20, (some (15, true)), .len, [.t 19]⟩,
      ⟨some 21, (some (15, true)), .bin .eql, [.t 20, .c (.int .i64 1)]⟩,
      ⟨some 22, none, .pick, [.t 15, .t 21, .c (.bool false)]⟩,
      ⟨some 23, none, .mv, [.t 22]⟩,
      ⟨some 24, (some (23, true)), .mv, [.t 2]⟩,
      ⟨some 25, (some (23, true)), .ladr 2, [.t 24, .c (.int .i64 0)]⟩,
      ⟨some 26, (some (23, true)), .fadr 0, [.t 25]⟩,
      ⟨some 27, (some (23, true)), .load false 1, [.t 26]⟩,
      ⟨some 28, (some (23, true)), .ladr 13, [.t 27, .c (.int .i64 0)]⟩,
      ⟨some 29, (some (23, true)), .fadr 0, [.t 28]⟩,
      ⟨some 30, (some (23, true)), .load false 1, [.t 29]⟩,
      ⟨some 31, (some (23, true)), .bin .eql, [.t 30, .c (.int .i64 1)]⟩,
      ⟨some 32, none, .pick, [.t 23, .t 31, .c (.bool false)]⟩,
      ⟨some 33, none, .mv, [.t 32]⟩,
      ⟨some 34, (some (33, true)), .mv, [.t 2]⟩,
      ⟨some 35, (some (33, true)), .ladr 2, [.t 34, .c (.int .i64 0)]⟩,
      ⟨some 36, (some (33, true)), .fadr 1, [.t 35]⟩,
      ⟨some 37, (some (33, true)), .load false 1, [.t 36]⟩,
      ⟨some 38, (some (33, true)), .len, [.t 37]⟩,
      ⟨some 39, (some (33, true)), .bin .eql, [.t 38, .c (.int .i64 1)]⟩,
      ⟨some 40, none, .pick, [.t 33, .t 39, .c (.bool false)]⟩,
      ⟨some 41, none, .mv, [.t 40]⟩,
      ⟨some 42, (some (41, true)), .mv, [.t 1]⟩,
      ⟨some 43, (some (41, true)), .ladr 2, [.t 42, .c (.int .i64 0)]⟩,
      ⟨some 44, (some (41, true)), .fadr 0, [.t 43]⟩,
      ⟨some 45, (some (41, true)), .load false 1, [.t 44]⟩,
      ⟨some 46, (some (41, true)), .len, [.t 45]⟩,
      ⟨some 47, (some (41, true)), .bin .eql, [.t 46, .c (.int .i64 2)]⟩,
      ⟨some 48, none, .pick, [.t 41, .t 47, .c (.bool false)]⟩,
      ⟨some 0, none, .mv, [.t 48]⟩])
    .ret)))) }

/-- tripwire/quiet.Quiet -/
def c7 : CFn := { np := 1, res := [.t 2], body :=
    (.seq (.reg [⟨some 2, none, .nil false 2 43, []⟩])
    (.seq (.reg [⟨some 3, none, .mv, [.t 0]⟩,
      ⟨some 4, none, .call 14, [.t 3, .c (.fn 16 [])]⟩,
      ⟨some 2, none, .mv, [.t 4]⟩])
    .ret)) }

/-- tripwire/quiet.Without -/
def c14 : CFn := { np := 2, res := [.t 4], body :=
    (.seq (.reg [⟨some 4, none, .nil false 2 43, []⟩])
    (.seq (.reg [⟨some 5, none, .nil true 2 43, []⟩])
    (.seq (.seq (.reg [⟨some 11, none, .mv, [.t 0]⟩,
      ⟨some 12, none, .len, [.t 11]⟩,
      ⟨some 13, none, .mv, [.c (.int .i64 0)]⟩])
    (.block 0 (.loop [1, 5, 11, 12, 13] [] [5] (.seq (.reg [⟨some 14, none, .bin .lss, [.t 13, .t 12]⟩])
    (.seq (.cond (.t 14) .skip (.exit 0))
    (.seq (.block 1 (.seq (.reg [⟨some 15, none, .ladr 2, [.t 11, .t 13]⟩,
      ⟨some 16, none, .load true 2, [.t 15]⟩,
      ⟨some 7, none, .alloc [(.lst none true 13 []), (.lst none true 15 [])], []⟩,
      ⟨none, none, .store 2, [.t 7, .t 16]⟩])
    (.seq (.reg [⟨some 17, none, .fadr 1, [.t 7]⟩,
      ⟨some 18, none, .load false 1, [.t 17]⟩,
      ⟨some 19, none, .call 39, [.t 18]⟩,
      ⟨some 20, none, .build [(.lst none true 13 []), (.lst none true 15 [])] [(1, 1)], [.t 19]⟩,
      ⟨some 8, none, .alloc [(.lst none true 13 []), (.lst none true 15 [])], []⟩,
      ⟨none, none, .store 2, [.t 8, .t 20]⟩])
    (.seq (.seq (.reg [⟨some 21, none, .fadr 0, [.t 7]⟩,
      ⟨some 22, none, .load false 1, [.t 21]⟩,
      ⟨some 23, none, .len, [.t 22]⟩,
      ⟨some 24, none, .mv, [.c (.int .i64 0)]⟩])
    (.block 2 (.loop [1, 5, 8, 11, 12, 13, 22, 23, 24] [8] [5, 36] (.seq (.reg [⟨some 25, none, .bin .lss, [.t 24, .t 23]⟩])
    (.seq (.cond (.t 25) .skip (.exit 2))
    (.seq (.block 3 (.seq (.reg [⟨some 26, none, .ladr 13, [.t 22, .t 24]⟩,
      ⟨some 27, none, .load true 13, [.t 26]⟩,
      ⟨some 10, none, .alloc [(.int .i64 0), (.int .i64 0), (.int .i64 0), (.int .i64 0), (.int .i64 0), (.int .i64 0), (.int .i64 0), (.bool false), (.bool false), (.str ByteArray.empty), (.int .i64 0), (.int .i64 0), (.int .i64 0)], []⟩,
      ⟨none, none, .store 13, [.t 10, .t 27]⟩])
    (.seq (.reg [⟨some 28, none, .mv, [.t 1]⟩,
      ⟨some 29, none, .load true 13, [.t 10]⟩,
      ⟨some 30, none, .callv, [.t 28, .t 29]⟩,
      ⟨some 31, none, .un .not, [.t 30]⟩])
    (.cond (.t 31) (.reg [⟨some 32, none, .fadr 0, [.t 8]⟩,
      ⟨some 33, none, .load false 1, [.t 32]⟩,
      ⟨some 34, none, .load true 13, [.t 10]⟩,
      ⟨some 35, none, .bsl false 13 34, [.t 34]⟩,
      ⟨some 36, none, .app true 13 104 34, [.t 33, .t 35]⟩,
      ⟨some 37, none, .fadr 0, [.t 8]⟩,
      ⟨none, none, .store 1, [.t 37, .t 36]⟩]) .skip))))
    (.reg [⟨some 38, none, .bin .add, [.t 24, .c (.int .i64 1)]⟩,
      ⟨some 24, none, .mv, [.t 38]⟩])))))))
    (.reg [⟨some 39, none, .mv, [.t 5]⟩,
      ⟨some 40, none, .load true 2, [.t 8]⟩,
      ⟨some 41, none, .bsl false 2 43, [.t 40]⟩,
      ⟨some 42, none, .app false 2 48 43, [.t 39, .t 41]⟩,
      ⟨some 5, none, .mv, [.t 42]⟩])))))
    (.reg [⟨some 43, none, .bin .add, [.t 13, .c (.int .i64 1)]⟩,
      ⟨some 13, none, .mv, [.t 43]⟩])))))))
    (.seq (.reg [⟨some 44, none, .mv, [.t 5]⟩,
      ⟨some 4, none, .mv, [.t 44]⟩])
    .ret)))) }

/-- slices.Clone[[]tripwire/api.Fault,tripwire/api.Fault] -/
def c39 : CFn := { np := 1, res := [.t 2], body :=
    (.seq (.reg [⟨some 2, none, .nil false 15 96, []⟩])
    (.seq (.seq (.reg [⟨some 3, none, .mv, [.t 0]⟩,
      ⟨some 4, none, .lnil false, [.t 3]⟩])
    (.cond (.t 4) (.seq (.reg [⟨some 2, none, .nil false 15 96, []⟩])
    .ret) .skip))
    (.seq (.reg [⟨some 5, none, .bsl true 15 96, []⟩,
      ⟨some 6, none, .mv, [.t 0]⟩,
      ⟨some 7, none, .app false 15 64 96, [.t 5, .t 6]⟩,
      ⟨some 2, none, .mv, [.t 7]⟩])
    .ret))) }

/-- tripwire/quiet.Reading -/
def c16 : CFn := { np := 1, res := [.t 2], body :=
    (.seq (.reg [⟨some 1, none, .box, [.t 0]⟩,
      ⟨some 2, none, .mv, [.c (.bool false)]⟩])
    (.seq (.reg [⟨some 3, none, .fadr 0, [.t 1]⟩,
      ⟨some 4, none, .load false 1, [.t 3]⟩,
      ⟨some 5, none, .bin .eql, [.t 4, .c (.int .i64 2)]⟩,
      ⟨some 6, none, .mv, [.t 5]⟩,
      ⟨some 7, (some (6, true)), .fadr 5, [.t 1]⟩,
      ⟨some 8, (some (6, true)), .fadr 2, [.t 7]⟩,
      ⟨some 9, (some (6, true)), .load false 1, [.t 8]⟩,
      ⟨some 10, (some (6, true)), .un .not, [.t 9]⟩,
      ⟨some 11, none, .pick, [.t 6, .t 10, .c (.bool false)]⟩,
      ⟨some 2, none, .mv, [.t 11]⟩])
    .ret)) }

/-- tripwire/quiet.Marks -/
def c19 : CFn := { np := 2, res := [.t 4], body :=
    (.seq (.reg [⟨some 4, none, .nil false 5 100, []⟩])
    (.seq (.reg [⟨some 5, none, .nil true 5 100, []⟩])
    (.seq (.seq (.reg [⟨some 10, none, .mv, [.t 1]⟩,
      ⟨some 11, none, .len, [.t 10]⟩,
      ⟨some 12, none, .mv, [.c (.int .i64 0)]⟩])
    (.block 0 (.loop [0, 5, 10, 11, 12] [] [5] (.seq (.reg [⟨some 13, none, .bin .lss, [.t 12, .t 11]⟩])
    (.seq (.cond (.t 13) .skip (.exit 0))
    (.seq (.block 1 (.seq (.reg [⟨some 14, none, .ladr 6, [.t 10, .t 12]⟩,
      ⟨some 15, none, .load true 6, [.t 14]⟩,
      ⟨some 7, none, .alloc [(.int .i64 0), (.lst none true 1 []), (.lst none true 12 []), (.lst none true 14 []), (.lst none true 5 []), (.int .i64 0)], []⟩,
      ⟨none, none, .store 6, [.t 7, .t 15]⟩])
    (.seq (.reg [⟨some 16, none, .fadr 4, [.t 7]⟩,
      ⟨some 17, none, .load false 1, [.t 16]⟩,
      ⟨some 18, none, .len, [.t 17]⟩,
      ⟨some 19, none, .mv, [.c (.int .i64 0)]⟩])
    (.block 2 (.loop [0, 5, 10, 11, 12, 17, 18, 19] [] [5] (.seq (.reg [⟨some 20, none, .bin .lss, [.t 19, .t 18]⟩])
    (.seq (.cond (.t 20) .skip (.exit 2))
    (.seq (.block 3 (.seq (.reg [⟨some 21, none, .ladr 5, [.t 17, .t 19]⟩,
      ⟨some 22, none, .load true 5, [.t 21]⟩,
      ⟨some 9, none, .alloc [(.int .i64 0), (.int .i64 0), (.int .i64 0), (.int .i64 0), (.str ByteArray.empty)], []⟩,
      ⟨none, none, .store 5, [.t 9, .t 22]⟩])
    (.seq (.reg [⟨some 23, none, .mv, [.t 0]⟩,
      ⟨some 24, none, .fadr 2, [.t 9]⟩,
      ⟨some 25, none, .load false 1, [.t 24]⟩,
      ⟨some 26, none, .call 41, [.t 23, .t 25]⟩])
    (.cond (.t 26) (.reg [⟨some 27, none, .mv, [.t 5]⟩,
      ⟨some 28, none, .load true 5, [.t 9]⟩,
      ⟨some 29, none, .bsl false 5 100, [.t 28]⟩,
      ⟨some 30, none, .app false 5 48 100, [.t 27, .t 29]⟩,
      ⟨some 5, none, .mv, [.t 30]⟩]) .skip))))
    (.reg [⟨some 31, none, .bin .add, [.t 19, .c (.int .i64 1)]⟩,
      ⟨some 19, none, .mv, [.t 31]⟩])))))))))
    (.reg [⟨some 32, none, .bin .add, [.t 12, .c (.int .i64 1)]⟩,
      ⟨some 12, none, .mv, [.t 32]⟩])))))))
    (.seq (.reg [⟨some 33, none, .mv, [.t 5]⟩,
      ⟨some 4, none, .mv, [.t 33]⟩])
    .ret)))) }

/-- slices.Contains[[]tripwire/api.MarkKind,tripwire/api.MarkKind] -/
def c41 : CFn := { np := 2, res := [.t 4], body :=
    (.seq (.reg [⟨some 4, none, .mv, [.c (.bool false)]⟩])
    (.seq (.reg [⟨some 5, none, .mv, [.t 0]⟩,
      ⟨some 6, none, .mv, [.t 1]⟩,
      ⟨some 7, none, .call 58, [.t 5, .t 6]⟩,
      ⟨some 8, none, .bin .geq, [.t 7, .c (.int .i64 0)]⟩,
      ⟨some 4, none, .mv, [.t 8]⟩])
    .ret)) }

/-- slices.Index[[]tripwire/api.MarkKind,tripwire/api.MarkKind] -/
def c58 : CFn := { np := 2, res := [.t 4], body :=
    (.seq (.reg [⟨some 4, none, .mv, [.c (.int .i64 0)]⟩])
    (.seq (.seq (.reg [⟨some 6, none, .mv, [.t 0]⟩,
      ⟨some 7, none, .len, [.t 6]⟩,
      ⟨some 8, none, .mv, [.c (.int .i64 0)]⟩])
    (.block 0 (.loop [0, 1, 7, 8] [] [] (.seq (.reg [⟨some 9, none, .bin .lss, [.t 8, .t 7]⟩])
    (.seq (.cond (.t 9) .skip (.exit 0))
    (.seq (.block 1 (.seq (.reg [⟨some 10, none, .mv, [.t 8]⟩,
      ⟨some 5, none, .mv, [.t 10]⟩])
    (.seq (.reg [⟨some 11, none, .mv, [.t 1]⟩,
      ⟨some 12, none, .mv, [.t 0]⟩,
      ⟨some 13, none, .mv, [.t 5]⟩,
      ⟨some 14, none, .ladr 1, [.t 12, .t 13]⟩,
      ⟨some 15, none, .load false 1, [.t 14]⟩,
      ⟨some 16, none, .bin .eql, [.t 11, .t 15]⟩])
    (.cond (.t 16) (.seq (.reg [⟨some 17, none, .mv, [.t 5]⟩,
      ⟨some 4, none, .mv, [.t 17]⟩])
    .ret) .skip))))
    (.reg [⟨some 18, none, .bin .add, [.t 8, .c (.int .i64 1)]⟩,
      ⟨some 8, none, .mv, [.t 18]⟩])))))))
    (.seq (.reg [⟨some 4, none, .mv, [.c (.int .i64 (-1))]⟩])
    .ret))) }

/-- tripwire/tripwireref43.Marks -/
def c20 : CFn := { np := 2, res := [.t 4], body :=
    (.seq (.reg [⟨some 4, none, .nil false 5 100, []⟩])
    (.seq (.reg [⟨some 10, none, .bsl true 5 100, []⟩,
      ⟨some 5, none, .mv, [.t 10]⟩])
    (.seq (.seq (.reg [⟨some 6, none, .mv, [.c (.int .i64 0)]⟩])
    (.block 0 (.loop [0, 1, 5, 6] [] [10] (.seq (.seq (.reg [⟨some 11, none, .mv, [.t 6]⟩,
      ⟨some 12, none, .mv, [.t 1]⟩,
      ⟨some 13, none, .len, [.t 12]⟩,
      ⟨some 14, none, .bin .lss, [.t 11, .t 13]⟩])
    (.cond (.t 14) .skip (.exit 0)))
    (.seq (.block 1 (.seq (.reg [⟨some 7, none, .mv, [.c (.int .i64 0)]⟩])
    (.block 2 (.loop [0, 1, 5, 6, 7] [] [10] (.seq (.seq (.reg [⟨some 17, none, .mv, [.t 7]⟩,
      ⟨some 18, none, .mv, [.t 1]⟩,
      ⟨some 19, none, .mv, [.t 6]⟩,
      ⟨some 20, none, .ladr 6, [.t 18, .t 19]⟩,
      ⟨some 21, none, .fadr 4, [.t 20]⟩,
      ⟨some 22, none, .load false 1, [.t 21]⟩,
      ⟨some 23, none, .len, [.t 22]⟩,
      ⟨some 24, none, .bin .lss, [.t 17, .t 23]⟩])
    (.cond (.t 24) .skip (.exit 2)))
    (.seq (.block 3 (.seq (.reg [⟨some 8, none, .mv, [.c (.bool false)]⟩])
    (.seq (.seq (.reg [⟨some 9, none, .mv, [.c (.int .i64 0)]⟩])
    (.block 4 (.loop [0, 1, 5, 6, 7, 8, 9] [] [10] (.seq (.seq (.reg [⟨some 27, none, .mv, [.t 9]⟩,
      ⟨some 28, none, .mv, [.t 0]⟩,
      ⟨some 29, none, .len, [.t 28]⟩,
      ⟨some 30, none, .bin .lss, [.t 27, .t 29]⟩])
    (.cond (.t 30) .skip (.exit 4)))
    (.seq (.block 5 (.draw 15 [0, 1, 3, 3, 15, 31, 3, 3, 195, 451, 963, 3, 4035, 8131, 16323, 32767, 65535, 131071] [⟨some 33, none, .mv, [.t 8]⟩,
      ⟨some 34, none, .mv, [.t 33]⟩,
      ⟨some 35, (some (34, false)), .mv, [.t 0]⟩,
      ⟨some 36, (some (34, false)), .mv, [.t 9]⟩,
      ⟨some 37, (some (34, false)), .ladr 1, [.t 35, .t 36]⟩,
      ⟨some 38, (some (34, false)), .load false 1, [.t 37]⟩,
      ⟨some 39, (some (34, false)), .mv, [.t 1]⟩,
      ⟨some 40, (some (34, false)), .mv, [.t 6]⟩,
      ⟨some 41, (some (34, false)), .ladr 6, [.t 39, .t 40]⟩,
      ⟨some 42, (some (34, false)), .fadr 4, [.t 41]⟩,
      ⟨some 43, (some (34, false)), .load false 1, [.t 42]⟩,
      ⟨some 44, (some (34, false)), .mv, [.t 7]⟩,
      ⟨some 45, (some (34, false)), .ladr 5, [.t 43, .t 44]⟩,
      ⟨some 46, (some (34, false)), .fadr 2, [.t 45]⟩,
      ⟨some 47, (some (34, false)), .load false 1, [.t 46]⟩,
      ⟨some 48, (some (34, false)), .bin .eql, [.t 38, .t 47]⟩,
      ⟨some 49, none, .pick, [.t 34, .c (.bool true), .t 48]⟩,
      ⟨some 8, none, .mv, [.t 49]⟩]))
    (.reg [⟨some 31, none, .mv, [.t 9]⟩,
      ⟨some 32, none, .bin .add, [.t 31, .c (.int .i64 1)]⟩,
      ⟨some 9, none, .mv, [.t 32]⟩]))))))
    (.seq (.reg [⟨some 50, none, .mv, [.t 8]⟩])
    (.cond (.t 50) (.reg [⟨some 51, none, .mv, [.t 5]⟩,
      ⟨some 52, none, .mv, [.t 1]⟩,
      ⟨some 53, none, .mv, [.t 6]⟩,
      ⟨some 54, none, .ladr 6, [.t 52, .t 53]⟩,
      ⟨some 55, none, .fadr 4, [.t 54]⟩,
      ⟨some 56, none, .load false 1, [.t 55]⟩,
      ⟨some 57, none, .mv, [.t 7]⟩,
      ⟨some 58, none, .ladr 5, [.t 56, .t 57]⟩,
      ⟨some 59, none, .load true 5, [.t 58]⟩,
      ⟨some 60, none, .bsl false 5 100, [.t 59]⟩,
      ⟨some 61, none, .app false 5 48 100, [.t 51, .t 60]⟩,
      ⟨some 5, none, .mv, [.t 61]⟩]) .skip)))))
    (.reg [⟨some 25, none, .mv, [.t 7]⟩,
      ⟨some 26, none, .bin .add, [.t 25, .c (.int .i64 1)]⟩,
      ⟨some 7, none, .mv, [.t 26]⟩])))))))
    (.reg [⟨some 15, none, .mv, [.t 6]⟩,
      ⟨some 16, none, .bin .add, [.t 15, .c (.int .i64 1)]⟩,
      ⟨some 6, none, .mv, [.t 16]⟩]))))))
    (.seq (.reg [⟨some 62, none, .mv, [.t 5]⟩,
      ⟨some 4, none, .mv, [.t 62]⟩])
    .ret)))) }

/-- tripwire/tripwirelaw34.Same -/
def c18 : CFn := { np := 2, res := [.t 4], body :=
    (.seq (.reg [⟨some 4, none, .mv, [.c (.bool false)]⟩])
    (.seq (.seq (.reg [⟨some 6, none, .mv, [.t 0]⟩,
      ⟨some 7, none, .len, [.t 6]⟩,
      ⟨some 8, none, .mv, [.t 1]⟩,
      ⟨some 9, none, .len, [.t 8]⟩,
      ⟨some 10, none, .bin .neq, [.t 7, .t 9]⟩])
    (.cond (.t 10) (.seq (.reg [⟨some 4, none, .mv, [.c (.bool false)]⟩])
    .ret) .skip))
    (.seq (.seq (.reg [⟨some 5, none, .mv, [.c (.int .i64 0)]⟩])
    (.block 0 (.loop [0, 1, 5] [] [] (.seq (.seq (.reg [⟨some 11, none, .mv, [.t 5]⟩,
      ⟨some 12, none, .mv, [.t 0]⟩,
      ⟨some 13, none, .len, [.t 12]⟩,
      ⟨some 14, none, .bin .lss, [.t 11, .t 13]⟩])
    (.cond (.t 14) .skip (.exit 0)))
    (.seq (.block 1 (.seq (.draw 8 [0, 0, 3, 7, 0, 0, 48, 112, 255] [⟨some 17, none, .mv, [.t 0]⟩,
      ⟨some 18, none, .mv, [.t 5]⟩,
      ⟨some 19, none, .ladr 5, [.t 17, .t 18]⟩,
      ⟨some 20, none, .load true 5, [.t 19]⟩,
      ⟨some 21, none, .mv, [.t 1]⟩,
      ⟨some 22, none, .mv, [.t 5]⟩,
      ⟨some 23, none, .ladr 5, [.t 21, .t 22]⟩,
      ⟨some 24, none, .load true 5, [.t 23]⟩,
      ⟨some 25, none, .eq [(0, 0), (1, 0), (2, 0), (3, 0), (4, 2)] true, [.t 20, .t 24]⟩])
    (.cond (.t 25) (.seq (.reg [⟨some 4, none, .mv, [.c (.bool false)]⟩])
    .ret) .skip)))
    (.reg [⟨some 15, none, .mv, [.t 5]⟩,
      ⟨some 16, none, .bin .add, [.t 15, .c (.int .i64 1)]⟩,
      ⟨some 5, none, .mv, [.t 16]⟩]))))))
    (.seq (.reg [⟨some 4, none, .mv, [.c (.bool true)]⟩])
    .ret)))) }

def codes : List (Nat × CFn) := [(4, c4), (17, c17), (7, c7), (14, c14), (39, c39), (16, c16), (19, c19), (41, c41), (58, c58), (20, c20), (18, c18)]
theorem k4 : chkAt Try.prog (4, c4) = true := by kernel_rfl
theorem k17 : chkAt Try.prog (17, c17) = true := by kernel_rfl
theorem k7 : chkAt Try.prog (7, c7) = true := by kernel_rfl
theorem k14 : chkAt Try.prog (14, c14) = true := by kernel_rfl
theorem k39 : chkAt Try.prog (39, c39) = true := by kernel_rfl
theorem k16 : chkAt Try.prog (16, c16) = true := by kernel_rfl
theorem k19 : chkAt Try.prog (19, c19) = true := by kernel_rfl
theorem k41 : chkAt Try.prog (41, c41) = true := by kernel_rfl
theorem k58 : chkAt Try.prog (58, c58) = true := by kernel_rfl
theorem k20 : chkAt Try.prog (20, c20) = true := by kernel_rfl
theorem k18 : chkAt Try.prog (18, c18) = true := by kernel_rfl
end Go.Proofs.Ytbbpkkeaddbcnaa.ZIM.QM
