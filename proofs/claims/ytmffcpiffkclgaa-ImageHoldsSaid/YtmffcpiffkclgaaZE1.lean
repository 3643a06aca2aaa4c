/- The dictionary: what is known beside the codes. -/
import Derived.Test.YtmffcpiffkclgaaZEC1
import Derived.Test.YtmffcpiffkclgaaZEN3
import Derived.Test.YtmffcpiffkclgaaZJ32
import Derived.Test.YtmffcpiffkclgaaZJ29
set_option linter.unusedSimpArgs false
set_option linter.unusedVariables false
set_option maxRecDepth 10000
namespace Go.Proofs.Ytmffcpiffkclgaa.ZJM.DC
open Go.Proofs.Ytmffcpiffkclgaa.ZJM Go.RowKit
def primF (f : FuncId) : Option (List PV → Mem → Option (PV × Bag × Mem)) := if f = 154 then some insF else none
def E : Env := ⟨fns, primF⟩
theorem prims {okP : OkP × Tab} : Prims Try.prog okP E.prim := by
  intro f F hf args m v bag m' hF g w ra hok hR hl ha hu
  simp only [E, primF] at hf
  split at hf
  · rename_i h105
    subst h105
    cases hf
    exact ⟨Try.f154, Try.func154, rfl, by decide, ins_ok hF hR hl ha⟩
  · cases hf
theorem app_ins (pr : Bool) (args : List PV) (m : Mem) : app E pr (.fn 154 []) args m = insF args m := app_prim E (f := 154) (F := insF) rfl pr args m
theorem h11 : E.fns 32 = some c11 := rfl
theorem h13 : E.fns 46 = some c13 := rfl
theorem h23 : E.fns 51 = some c23 := rfl
theorem h26 : E.fns 56 = some c26 := rfl
theorem h27 : E.fns 66 = some c27 := rfl
theorem h33 : E.fns 67 = some c33 := rfl
theorem h37 : E.fns 70 = some c37 := rfl
theorem h39 : E.fns 71 = some c39 := rfl
theorem h40 : E.fns 64 = some c40 := rfl
theorem h41 : E.fns 72 = some c41 := rfl
theorem h42 : E.fns 65 = some c42 := rfl
theorem h47 : E.fns 74 = some c47 := rfl
theorem h48 : E.fns 69 = some c48 := rfl
theorem h51 : E.fns 14 = some c51 := rfl
theorem h52 : E.fns 98 = some c52 := rfl
theorem h53 : E.fns 116 = some c53 := rfl
theorem h55 : E.fns 107 = some c55 := rfl
theorem h56 : E.fns 108 = some c56 := rfl
theorem h57 : E.fns 109 = some c57 := rfl
theorem h58 : E.fns 110 = some c58 := rfl
theorem h59 : E.fns 111 = some c59 := rfl
theorem h60 : E.fns 112 = some c60 := rfl
theorem h61 : E.fns 113 = some c61 := rfl
theorem h62 : E.fns 114 = some c62 := rfl
theorem h69 : E.fns 145 = some c69 := rfl
theorem h70 : E.fns 120 = some c70 := rfl
theorem h73 : E.fns 136 = some c73 := rfl
theorem h74 : E.fns 94 = some c74 := rfl
theorem h75 : E.fns 132 = some c75 := rfl
theorem h85 : E.fns 68 = some c85 := rfl
theorem h86 : E.fns 137 = some c86 := rfl
theorem h87 : E.fns 131 = some c87 := rfl
theorem h91 : E.fns 134 = some c91 := rfl
theorem h92 : E.fns 135 = some c92 := rfl
theorem h94 : E.fns 77 = some c94 := rfl
theorem h95 : E.fns 92 = some c95 := rfl
theorem h96 : E.fns 73 = some c96 := rfl
theorem h97 : E.fns 139 = some c97 := rfl
theorem h98 : E.fns 148 = some c98 := rfl
theorem h99 : E.fns 149 = some c99 := rfl
theorem h100 : E.fns 93 = some c100 := rfl
theorem h101 : E.fns 150 = some c101 := rfl
theorem h102 : E.fns 151 = some c102 := rfl
theorem h103 : E.fns 152 = some c103 := rfl
theorem h104 : E.fns 153 = some c104 := rfl
theorem h108 : E.fns 156 = some c108 := rfl
theorem h109 : E.fns 155 = some c109 := rfl
theorem h110 : E.fns 157 = some c110 := rfl
theorem h111 : E.fns 104 = some c111 := rfl
theorem h112 : E.fns 167 = some c112 := rfl
theorem h116 : E.fns 133 = some c116 := rfl
theorem h117 : E.fns 21 = some c117 := rfl
theorem h118 : E.fns 22 = some c118 := rfl
theorem h121 : E.fns 169 = some c121 := rfl
theorem h124 : E.fns 81 = some c124 := rfl
theorem hx9 : E.fns 9 = some cx9 := rfl
theorem hx12 : E.fns 12 = some cx12 := rfl
theorem hx33 : E.fns 33 = some cx33 := rfl
theorem hx34 : E.fns 34 = some cx34 := rfl
theorem hx35 : E.fns 35 = some cx35 := rfl
theorem hx36 : E.fns 36 = some cx36 := rfl
theorem hx37 : E.fns 37 = some cx37 := rfl
theorem hx38 : E.fns 38 = some cx38 := rfl
theorem hx40 : E.fns 40 = some cx40 := rfl
theorem hx42 : E.fns 42 = some cx42 := rfl
theorem hx43 : E.fns 43 = some cx43 := rfl
theorem hx45 : E.fns 45 = some cx45 := rfl
theorem hx49 : E.fns 49 = some cx49 := rfl
theorem hx50 : E.fns 50 = some cx50 := rfl
theorem hx52 : E.fns 52 = some cx52 := rfl
theorem hx53 : E.fns 53 = some cx53 := rfl
theorem hx54 : E.fns 54 = some cx54 := rfl
theorem hx55 : E.fns 55 = some cx55 := rfl
theorem hx99 : E.fns 99 = some cx99 := rfl
theorem hx100 : E.fns 100 = some cx100 := rfl
theorem hx101 : E.fns 101 = some cx101 := rfl
theorem hx102 : E.fns 102 = some cx102 := rfl
theorem hx103 : E.fns 103 = some cx103 := rfl
theorem hx105 : E.fns 105 = some cx105 := rfl
theorem hx106 : E.fns 106 = some cx106 := rfl
theorem hx119 : E.fns 119 = some cx119 := rfl
theorem hx121 : E.fns 121 = some cx121 := rfl
theorem hx146 : E.fns 146 = some cx146 := rfl
theorem hx147 : E.fns 147 = some cx147 := rfl
end Go.Proofs.Ytmffcpiffkclgaa.ZJM.DC
