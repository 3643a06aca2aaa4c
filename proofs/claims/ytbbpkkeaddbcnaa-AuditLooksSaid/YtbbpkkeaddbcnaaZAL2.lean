/- AuditLooks: what is known of its functions; its closed call. -/
import Derived.Test.YtbbpkkeaddbcnaaZAL1
import Derived.Test.YtbbpkkeaddbcnaaZIM23
namespace Go.Proofs.Ytbbpkkeaddbcnaa.ZIM.AL
open Go.Proofs.Ytbbpkkeaddbcnaa.ZIM
abbrev fns := fnsOf codes
theorem live_ok : apply fns 30 (.fn 22 []) [] [[]] = some (.bool true, [[]]) := by kernel_rfl
end Go.Proofs.Ytbbpkkeaddbcnaa.ZIM.AL
