/- The image: what must be whatever is asked. -/
import Derived.Test.YtmffcpiffkclgaaZY1
import Derived.Test.YtmffcpiffkclgaaZYM10
set_option linter.unusedSimpArgs false
set_option linter.unusedVariables false
set_option maxRecDepth 100000
namespace Go.Proofs.Ytmffcpiffkclgaa.ZJM.DC
open Go.Proofs.Ytmffcpiffkclgaa.ZJM Go.RowKit
end Go.Proofs.Ytmffcpiffkclgaa.ZJM.DC
set_option linter.unusedSimpArgs false
set_option linter.unusedVariables false
set_option maxRecDepth 10000
namespace Go.Proofs.Ytmffcpiffkclgaa.ZJM.DC
open Go.Proofs.Ytmffcpiffkclgaa.ZJM Go.RowKit
abbrev Ks (l : List Int) : List PV := encs (PV.int .i64) l
theorem ks_okns (l : List Int) (a b c) : PV.okns a b c (Ks l) = true := PV.datas_okns _ _ _ _ (encs_data fun x _ => rfl)
theorem ks_deps (l : List Int) (a) : PV.deps a (Ks l) = true := PV.datas_deps _ _ (encs_data fun x _ => rfl)
attribute [simp] ks_okns ks_deps
def imgO (i a : Int) : List Ent := [⟨i,1,2,a,0,255,[]⟩,⟨i,2,3,a,0,65535,[]⟩,⟨i,3,4,a,0,4294967295,[]⟩,⟨i,4,6,a,-32768,32767,[]⟩,⟨i,5,1,a,0,1,[]⟩,⟨i,6,5,a,-128,127,[]⟩]
def imgN : List Ent := imgO 8192 3 ++ ([⟨8192,7,8,3,0,40,[]⟩] ++ (imgO 8448 1 ++ imgO 8704 3))
section
variable {m : Mem} {lv a a' ver : Nat} {l : List Row} {c : Int} (hd : DA m lv a a' ver l c) {r : RD} (hs : Sim l c r) (i ac : Int)
end
end Go.Proofs.Ytmffcpiffkclgaa.ZJM.DC
set_option linter.unusedSimpArgs false
set_option linter.unusedVariables false
set_option maxRecDepth 10000
namespace Go.Proofs.Ytmffcpiffkclgaa.ZJM.DC
open Go.Proofs.Ytmffcpiffkclgaa.ZJM Go.RowKit
section
variable {m : Mem} {lv a a' ver : Nat} {l : List Row} {c : Int} (hd : DA m lv a a' ver l c) {r : RD} (hs : Sim l c r)
include hd hs
end
section
variable (i s s2 : Int) (LR : List Ent) (hLR : LR.length = 19) (hget : ∀ t,t < 19 → ∃ e : Ent,imgN[t]? = some e ∧ e.b = [] ∧ LR[t]? = some { e with b := zs (ksz e.k).toNat })
end
end Go.Proofs.Ytmffcpiffkclgaa.ZJM.DC
