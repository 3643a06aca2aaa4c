/- Laid: both dictionaries with a node's own entries and the safety section. -/
import Derived.Test.YtmffcpiffkclgaaZEM1
set_option linter.unusedSimpArgs false
set_option linter.unusedVariables false
set_option maxRecDepth 10000
namespace Go.Proofs.Ytmffcpiffkclgaa.ZJM.DC
open Go.Proofs.Ytmffcpiffkclgaa.ZJM Go.RowKit

def r0 : RD := ⟨true, [], 0⟩
section
variable (m : Mem)
variable (LL : List Ent) (hL : LL.length ≤ 500) (hok : ∀ e ∈ LL, OkB e.b ∧ e.b.length ≤ 64) (h8 : 8 ≤ LL.length)
end
end Go.Proofs.Ytmffcpiffkclgaa.ZJM.DC

set_option linter.unusedSimpArgs false
set_option linter.unusedVariables false
set_option maxRecDepth 10000
namespace Go.Proofs.Ytmffcpiffkclgaa.ZJM.DC
open Go.Proofs.Ytmffcpiffkclgaa.ZJM Go.RowKit

structure Byt where
  (nl : Bool) (b : List Int)
def Byt.enc (x : Byt) : PV := Bl x.nl x.b
def Byt.ok (x : Byt) : Prop := OkB x.b ∧ (x.nl = true → x.b = [])
abbrev Ys (l : List Byt) : List PV := encs Byt.enc l
theorem byt_data (x : Byt) : x.enc.data = true := by simp [Byt.enc, PV.data, bs_data]
theorem ys_data (l : List Byt) : PV.datas (Ys l) = true := encs_data fun x _ => byt_data x
theorem ys_okns (l : List Byt) (a b c) : PV.okns a b c (Ys l) = true := PV.datas_okns _ _ _ _ (ys_data l)
theorem ys_deps (l : List Byt) (a) : PV.deps a (Ys l) = true := PV.datas_deps _ _ (ys_data l)
theorem ys_names (l : List Byt) (a) : PV.namess a (Ys l) = [] := PV.datas_namess _ _ (ys_data l)
theorem ys_rens (l : List Byt) (a b ρ) : PV.rens a b ρ (Ys l) = Ys l := PV.datas_rens _ _ _ _ (ys_data l)
attribute [simp] ys_okns ys_deps ys_names ys_rens
section
variable (m : Mem) (nl : Bool) (Y : List Byt) (hY : ∀ y ∈ Y, y.ok)
end
end Go.Proofs.Ytmffcpiffkclgaa.ZJM.DC
