/- A part of the proof that the law QuietMarks holds at whatever it is handed. -/
import Derived.Test.YtbbpkkeaddbcnaaZQM1
import Derived.Test.YtbbpkkeaddbcnaaZIM22
set_option linter.unusedSimpArgs false
set_option linter.unusedVariables false
namespace Go.Proofs.Ytbbpkkeaddbcnaa.ZIM.QM
open Go.Proofs.Ytbbpkkeaddbcnaa.ZIM Go.RowKit

abbrev fns := fnsOf codes
theorem knows : Knows Try.prog fns := knows_of (ball_cons k4 (ball_cons k17 (ball_cons k7 (ball_cons k14 (ball_cons k39 (ball_cons k16 (ball_cons k19 (ball_cons k41 (ball_cons k58 (ball_cons k20 (ball_cons k18 ball_nil)))))))))))
theorem live_ok : apply fns 20 (.fn 17 []) [] [[]] = some (.bool true, [[]]) := by kernel_rfl
end Go.Proofs.Ytbbpkkeaddbcnaa.ZIM.QM
