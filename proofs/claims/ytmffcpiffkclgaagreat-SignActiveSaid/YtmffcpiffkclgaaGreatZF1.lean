/- The dictionary: what is known beside the codes. -/
import Derived.Test.YtmffcpiffkclgaaGreatZFC1
import Derived.Test.YtmffcpiffkclgaaGreatZFN3
import Derived.Test.YtmffcpiffkclgaaGreatZJ32
import Derived.Test.YtmffcpiffkclgaaGreatZJ29
set_option linter.unusedSimpArgs false
set_option linter.unusedVariables false
set_option maxRecDepth 10000
namespace Go.Proofs.YtmffcpiffkclgaaGreat.ZJM.DC
open Go.Proofs.YtmffcpiffkclgaaGreat.ZJM Go.RowKit
def primF (f:FuncId):Option (List PV→Mem→Option (PV × Bag × Mem)):=if f=132 then some insF else none
def E:Env:=⟨fns,primF⟩
theorem prims {okP:OkP × Tab}:Prims Tryz.prog okP E.prim:=by
 intro f F hf args m v bag m' hF g w ra hok hR hl ha hu
 simp only [E,primF] at hf
 split at hf
 ·rename_i h105
  subst h105
  cases hf
  exact ⟨Tryz.f132,Tryz.func132,rfl,by decide,ins_ok hF hR hl ha⟩
 ·cases hf
theorem app_ins (pr:Bool) (args:List PV) (m:Mem):app E pr (.fn 132 []) args m=insF args m:=app_prim E (f:=132) (F:=insF) rfl pr args m
theorem h11:E.fns 57=some c11:=rfl
theorem h12:E.fns 60=some c12:=rfl
theorem h13:E.fns 61=some c13:=rfl
theorem h14:E.fns 59=some c14:=rfl
theorem h16:E.fns 62=some c16:=rfl
theorem h18:E.fns 51=some c18:=rfl
theorem h19:E.fns 26=some c19:=rfl
theorem h20:E.fns 114=some c20:=rfl
theorem h21:E.fns 42=some c21:=rfl
theorem h27:E.fns 102=some c27:=rfl
theorem h31:E.fns 81=some c31:=rfl
theorem h32:E.fns 40=some c32:=rfl
theorem h33:E.fns 73=some c33:=rfl
theorem h44:E.fns 100=some c44:=rfl
theorem h48:E.fns 34=some c48:=rfl
theorem h52:E.fns 98=some c52:=rfl
theorem h53:E.fns 101=some c53:=rfl
theorem h54:E.fns 103=some c54:=rfl
theorem h55:E.fns 104=some c55:=rfl
theorem h56:E.fns 105=some c56:=rfl
theorem h57:E.fns 86=some c57:=rfl
theorem h58:E.fns 106=some c58:=rfl
theorem h59:E.fns 83=some c59:=rfl
theorem h60:E.fns 107=some c60:=rfl
theorem h61:E.fns 108=some c61:=rfl
theorem h62:E.fns 109=some c62:=rfl
theorem h63:E.fns 99=some c63:=rfl
theorem h64:E.fns 14=some c64:=rfl
theorem h65:E.fns 45=some c65:=rfl
theorem h66:E.fns 110=some c66:=rfl
theorem h67:E.fns 111=some c67:=rfl
theorem h68:E.fns 112=some c68:=rfl
theorem h69:E.fns 87=some c69:=rfl
theorem h73:E.fns 72=some c73:=rfl
theorem h74:E.fns 74=some c74:=rfl
theorem h75:E.fns 119=some c75:=rfl
theorem h79:E.fns 120=some c79:=rfl
theorem h80:E.fns 79=some c80:=rfl
theorem h84:E.fns 30=some c84:=rfl
theorem h91:E.fns 70=some c91:=rfl
theorem h92:E.fns 71=some c92:=rfl
theorem h94:E.fns 36=some c94:=rfl
theorem h95:E.fns 115=some c95:=rfl
theorem h97:E.fns 76=some c97:=rfl
theorem h98:E.fns 116=some c98:=rfl
theorem h99:E.fns 124=some c99:=rfl
theorem h100:E.fns 88=some c100:=rfl
theorem h101:E.fns 125=some c101:=rfl
theorem h102:E.fns 49=some c102:=rfl
theorem h103:E.fns 122=some c103:=rfl
theorem h104:E.fns 131=some c104:=rfl
theorem h106:E.fns 37=some c106:=rfl
theorem h107:E.fns 133=some c107:=rfl
theorem h108:E.fns 127=some c108:=rfl
theorem h109:E.fns 126=some c109:=rfl
theorem h111:E.fns 117=some c111:=rfl
theorem h112:E.fns 118=some c112:=rfl
theorem h115:E.fns 58=some c115:=rfl
theorem h116:E.fns 77=some c116:=rfl
theorem h117:E.fns 21=some c117:=rfl
theorem h118:E.fns 75=some c118:=rfl
theorem h121:E.fns 136=some c121:=rfl
theorem h124:E.fns 48=some c124:=rfl
theorem hx17:E.fns 15=some cx17:=rfl
theorem hx23:E.fns 38=some cx23:=rfl
theorem hx25:E.fns 31=some cx25:=rfl
theorem hx26:E.fns 32=some cx26:=rfl
theorem hx27:E.fns 44=some cx27:=rfl
theorem hx28:E.fns 17=some cx28:=rfl
theorem hx29:E.fns 69=some cx29:=rfl
theorem hx30:E.fns 35=some cx30:=rfl
theorem hx31:E.fns 68=some cx31:=rfl
theorem hx57:E.fns 7=some cx57:=rfl
theorem hx58:E.fns 10=some cx58:=rfl
theorem hx60:E.fns 8=some cx60:=rfl
theorem hx84:E.fns 63=some cx84:=rfl
theorem hx85:E.fns 64=some cx85:=rfl
theorem hx86:E.fns 65=some cx86:=rfl
theorem hx88:E.fns 67=some cx88:=rfl
theorem hx89:E.fns 80=some cx89:=rfl
theorem hx90:E.fns 41=some cx90:=rfl
theorem hx96:E.fns 113=some cx96:=rfl
theorem hx123:E.fns 27=some cx123:=rfl
theorem hx125:E.fns 12=some cx125:=rfl
theorem hx126:E.fns 19=some cx126:=rfl
theorem hx127:E.fns 28=some cx127:=rfl
theorem hx158:E.fns 22=some cx158:=rfl
theorem hx159:E.fns 23=some cx159:=rfl
theorem hx160:E.fns 24=some cx160:=rfl
theorem hx161:E.fns 25=some cx161:=rfl
theorem hx162:E.fns 33=some cx162:=rfl
theorem hx163:E.fns 46=some cx163:=rfl
theorem hx165:E.fns 54=some cx165:=rfl
theorem hx172:E.fns 50=some cx172:=rfl
theorem hx173:E.fns 52=some cx173:=rfl
theorem hx174:E.fns 82=some cx174:=rfl
theorem hx175:E.fns 89=some cx175:=rfl
theorem hx176:E.fns 90=some cx176:=rfl
theorem hx177:E.fns 91=some cx177:=rfl
theorem hx178:E.fns 92=some cx178:=rfl
theorem hx182:E.fns 121=some cx182:=rfl
theorem hy4:E.fns 4=some cy4:=rfl
theorem hy6:E.fns 6=some cy6:=rfl
theorem hy9:E.fns 9=some cy9:=rfl
theorem hy11:E.fns 11=some cy11:=rfl
theorem hy13:E.fns 13=some cy13:=rfl
theorem hy16:E.fns 16=some cy16:=rfl
theorem hy18:E.fns 18=some cy18:=rfl
theorem hy29:E.fns 29=some cy29:=rfl
theorem hy39:E.fns 39=some cy39:=rfl
theorem hy43:E.fns 43=some cy43:=rfl
theorem hy53:E.fns 53=some cy53:=rfl
theorem hy55:E.fns 55=some cy55:=rfl
theorem hy56:E.fns 56=some cy56:=rfl
theorem hy78:E.fns 78=some cy78:=rfl
theorem hy93:E.fns 93=some cy93:=rfl
theorem hy94:E.fns 94=some cy94:=rfl
theorem hy95:E.fns 95=some cy95:=rfl
theorem hy96:E.fns 96=some cy96:=rfl
theorem hy97:E.fns 97=some cy97:=rfl
theorem hy128:E.fns 128=some cy128:=rfl
theorem hy129:E.fns 129=some cy129:=rfl
theorem hy130:E.fns 130=some cy130:=rfl
end Go.Proofs.YtmffcpiffkclgaaGreat.ZJM.DC
