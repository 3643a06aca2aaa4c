/- Both dictionaries behind deeds. -/
import Derived.Test.YtmffcpiffkclgaaZYP3
set_option linter.unusedSimpArgs false
set_option linter.unusedVariables false
set_option maxRecDepth 4000
namespace Go.Proofs.Ytmffcpiffkclgaa.ZJM.DC
open Go.Proofs.Ytmffcpiffkclgaa.ZJM Go.RowKit
section
variable (m : Mem) (nl : Bool) (l : List Deed) (hl : ∀ x ∈ l,x.ok)
end
end Go.Proofs.Ytmffcpiffkclgaa.ZJM.DC
set_option linter.unusedSimpArgs false
set_option linter.unusedVariables false
set_option maxRecDepth 4000
namespace Go.Proofs.Ytmffcpiffkclgaa.ZJM.DC
open Go.Proofs.Ytmffcpiffkclgaa.ZJM Go.RowKit
abbrev Is (l : List Int) : List PV := encs (PV.int .i64) l
theorem is_data (l : List Int) : PV.datas (Is l) = true := encs_data fun x _ => rfl
theorem is_okns (l : List Int) (a b c) : PV.okns a b c (Is l) = true := PV.datas_okns _ _ _ _ (is_data l)
theorem is_deps (l : List Int) (a) : PV.deps a (Is l) = true := PV.datas_deps _ _ (is_data l)
theorem is_names (l : List Int) (a) : PV.namess a (Is l) = [] := PV.datas_namess _ _ (is_data l)
theorem is_rens (l : List Int) (a b ρ) : PV.rens a b ρ (Is l) = Is l := PV.datas_rens _ _ _ _ (is_data l)
attribute [simp] is_okns is_deps is_names is_rens
section
variable (i s : Int) (r : RD) (ver : Nat) (rows : List Row) (c : Int)
end
end Go.Proofs.Ytmffcpiffkclgaa.ZJM.DC
