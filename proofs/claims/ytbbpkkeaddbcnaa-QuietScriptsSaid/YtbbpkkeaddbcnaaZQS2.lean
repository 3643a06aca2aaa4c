/- QuietScripts: what is closed. -/
import Derived.Test.YtbbpkkeaddbcnaaZQS1
import Derived.Test.YtbbpkkeaddbcnaaZJ29
namespace Go.Proofs.Ytbbpkkeaddbcnaa.ZJM.QS
open Go.Proofs.Ytbbpkkeaddbcnaa.ZJM
def E : Env := ⟨fns, fun _ => none⟩
theorem prims : Prims Try.prog (RoOk Try.prog E.fns) E.prim := fun f F h => by cases h
theorem live_ok : apply E 20 false (.fn 17 []) [] [] = some (.bool true, emptyBag, []) := by kernel_rfl
end Go.Proofs.Ytbbpkkeaddbcnaa.ZJM.QS
