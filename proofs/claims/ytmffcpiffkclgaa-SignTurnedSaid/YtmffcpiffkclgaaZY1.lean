/- The dictionary: what is known beside the codes. -/
import Derived.Test.YtmffcpiffkclgaaZYC1
import Derived.Test.YtmffcpiffkclgaaZYN3
import Derived.Test.YtmffcpiffkclgaaZJ32
import Derived.Test.YtmffcpiffkclgaaZJ29
set_option linter.unusedSimpArgs false
set_option linter.unusedVariables false
set_option maxRecDepth 10000
namespace Go.Proofs.Ytmffcpiffkclgaa.ZJM.DC
open Go.Proofs.Ytmffcpiffkclgaa.ZJM Go.RowKit
def primF (f : FuncId) : Option (List PV → Mem → Option (PV × Bag × Mem)) := if f = 154 then some insF else none
def E : Env := ⟨fns,primF⟩
theorem prims {okP : OkP × Tab} : Prims Try.prog okP E.prim := by
 intro f F hf args m v bag m' hF g w ra hok hR hl ha hu
 simp only [E,primF] at hf
 split at hf
 ·rename_i h105
  subst h105
  cases hf
  exact ⟨Try.f154,Try.func154,rfl,by decide,ins_ok hF hR hl ha⟩
 ·cases hf
theorem app_ins (pr : Bool) (args : List PV) (m : Mem) : app E pr (.fn 154 []) args m = insF args m := app_prim E (f := 154) (F := insF) rfl pr args m
theorem h11 : E.fns 32 = some c11 := rfl
theorem h12 : E.fns 47 = some c12 := rfl
theorem h13 : E.fns 46 = some c13 := rfl
theorem h14 : E.fns 62 = some c14 := rfl
theorem h16 : E.fns 63 = some c16 := rfl
theorem h18 : E.fns 83 = some c18 := rfl
theorem h19 : E.fns 122 = some c19 := rfl
theorem h20 : E.fns 97 = some c20 := rfl
theorem h21 : E.fns 91 = some c21 := rfl
theorem h27 : E.fns 66 = some c27 := rfl
theorem h31 : E.fns 76 = some c31 := rfl
theorem h33 : E.fns 67 = some c33 := rfl
theorem h44 : E.fns 115 = some c44 := rfl
theorem h48 : E.fns 69 = some c48 := rfl
theorem h52 : E.fns 98 = some c52 := rfl
theorem h53 : E.fns 116 = some c53 := rfl
theorem h54 : E.fns 117 = some c54 := rfl
theorem h55 : E.fns 107 = some c55 := rfl
theorem h56 : E.fns 108 = some c56 := rfl
theorem h57 : E.fns 109 = some c57 := rfl
theorem h58 : E.fns 110 = some c58 := rfl
theorem h59 : E.fns 111 = some c59 := rfl
theorem h60 : E.fns 112 = some c60 := rfl
theorem h61 : E.fns 113 = some c61 := rfl
theorem h62 : E.fns 114 = some c62 := rfl
theorem h63 : E.fns 128 = some c63 := rfl
theorem h64 : E.fns 18 = some c64 := rfl
theorem h65 : E.fns 16 = some c65 := rfl
theorem h66 : E.fns 129 = some c66 := rfl
theorem h67 : E.fns 95 = some c67 := rfl
theorem h68 : E.fns 130 = some c68 := rfl
theorem h69 : E.fns 145 = some c69 := rfl
theorem h73 : E.fns 136 = some c73 := rfl
theorem h74 : E.fns 94 = some c74 := rfl
theorem h75 : E.fns 132 = some c75 := rfl
theorem h79 : E.fns 138 = some c79 := rfl
theorem h84 : E.fns 11 = some c84 := rfl
theorem h91 : E.fns 134 = some c91 := rfl
theorem h92 : E.fns 135 = some c92 := rfl
theorem h95 : E.fns 92 = some c95 := rfl
theorem h97 : E.fns 139 = some c97 := rfl
theorem h98 : E.fns 148 = some c98 := rfl
theorem h99 : E.fns 149 = some c99 := rfl
theorem h100 : E.fns 93 = some c100 := rfl
theorem h101 : E.fns 150 = some c101 := rfl
theorem h102 : E.fns 151 = some c102 := rfl
theorem h103 : E.fns 152 = some c103 := rfl
theorem h104 : E.fns 153 = some c104 := rfl
theorem h106 : E.fns 78 = some c106 := rfl
theorem h107 : E.fns 166 = some c107 := rfl
theorem h108 : E.fns 156 = some c108 := rfl
theorem h109 : E.fns 155 = some c109 := rfl
theorem h111 : E.fns 104 = some c111 := rfl
theorem h112 : E.fns 167 = some c112 := rfl
theorem h115 : E.fns 61 = some c115 := rfl
theorem h117 : E.fns 21 = some c117 := rfl
theorem h121 : E.fns 169 = some c121 := rfl
theorem h124 : E.fns 81 = some c124 := rfl
theorem hx29 : E.fns 29 = some cx29 := rfl
theorem hx31 : E.fns 31 = some cx31 := rfl
theorem hx57 : E.fns 57 = some cx57 := rfl
theorem hx58 : E.fns 58 = some cx58 := rfl
theorem hx60 : E.fns 60 = some cx60 := rfl
theorem hx84 : E.fns 84 = some cx84 := rfl
theorem hx96 : E.fns 96 = some cx96 := rfl
theorem hx123 : E.fns 123 = some cx123 := rfl
theorem hx125 : E.fns 125 = some cx125 := rfl
theorem hx126 : E.fns 126 = some cx126 := rfl
theorem hx127 : E.fns 127 = some cx127 := rfl
theorem hx158 : E.fns 158 = some cx158 := rfl
theorem hx159 : E.fns 159 = some cx159 := rfl
theorem hx160 : E.fns 160 = some cx160 := rfl
theorem hx161 : E.fns 161 = some cx161 := rfl
theorem hx162 : E.fns 162 = some cx162 := rfl
theorem hx163 : E.fns 163 = some cx163 := rfl
theorem hx165 : E.fns 165 = some cx165 := rfl
theorem hx172 : E.fns 172 = some cx172 := rfl
theorem hx173 : E.fns 173 = some cx173 := rfl
theorem hx174 : E.fns 174 = some cx174 := rfl
theorem hx175 : E.fns 175 = some cx175 := rfl
theorem hx176 : E.fns 176 = some cx176 := rfl
theorem hx177 : E.fns 177 = some cx177 := rfl
theorem hx178 : E.fns 178 = some cx178 := rfl
theorem hx182 : E.fns 182 = some cx182 := rfl
theorem hy6 : E.fns 124 = some cy6 := rfl
theorem hy53 : E.fns 164 = some cy53 := rfl
theorem hw10 : E.fns 10 = some cw10 := rfl
theorem hw59 : E.fns 59 = some cw59 := rfl
end Go.Proofs.Ytmffcpiffkclgaa.ZJM.DC
