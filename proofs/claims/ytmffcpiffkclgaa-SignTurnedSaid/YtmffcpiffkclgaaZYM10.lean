/- Mappings: parts of some bytes. -/
import Derived.Test.YtmffcpiffkclgaaZYM4
set_option linter.unusedSimpArgs false
set_option linter.unusedVariables false
set_option maxRecDepth 4000
namespace Go.Proofs.Ytmffcpiffkclgaa.ZJM.DC
open Go.Proofs.Ytmffcpiffkclgaa.ZJM Go.RowKit
abbrev Ps (nb : Bool) (l : List (List Int)) : List PV := encs (Bl nb) l
theorem ps_data (nb : Bool) (l : List (List Int)) : PV.datas (Ps nb l) = true := encs_data fun x _ => by simp [PV.data,bs_data]
theorem ps_okns (nb : Bool) (l : List (List Int)) (a b c) : PV.okns a b c (Ps nb l) = true := PV.datas_okns _ _ _ _ (ps_data nb l)
theorem ps_deps (nb : Bool) (l : List (List Int)) (a) : PV.deps a (Ps nb l) = true := PV.datas_deps _ _ (ps_data nb l)
attribute [simp] ps_okns ps_deps
section
variable {m : Mem} {lv a a' ver : Nat} {l : List Row} {c : Int} (hd : DA m lv a a' ver l c) {r : RD} (hs : Sim l c r) (nb : Bool) (nl : Bool) (L : List Slot)
end
end Go.Proofs.Ytmffcpiffkclgaa.ZJM.DC
set_option linter.unusedSimpArgs false
set_option linter.unusedVariables false
set_option maxRecDepth 4000
namespace Go.Proofs.Ytmffcpiffkclgaa.ZJM.DC
open Go.Proofs.Ytmffcpiffkclgaa.ZJM Go.RowKit
theorem skel_find {r r' : RD} (h : skel r = skel r') (i s : Int) : findIx r.l i s = findIx r'.l i s := by
 have e : ∀ l : List Ent,findIx l i s = (l.map skE).findIdx? (fun k => decide (k.1 = i) && decide (k.2.1 = s)) := fun l => by
  rw [List.findIdx?_map]
  unfold findIx
  congr 1
 rw [e,e]
 exact congrArg _ h
theorem skel_get {r r' : RD} (h : skel r = skel r') (j : Nat) : (r.l[j]?).map skE = (r'.l[j]?).map skE := by
 rw [← List.getElem?_map,← List.getElem?_map]
 exact congrArg (fun l : List (Int × Int × Int × Int × Int × Int) => l[j]?) h
section
variable {m : Mem} {lv a a' ver : Nat} {l : List Row} {c : Int} (hd : DA m lv a a' ver l c) {r : RD} (hs : Sim l c r) (nb : Bool) (nl : Bool) (L : List Slot)
end
end Go.Proofs.Ytmffcpiffkclgaa.ZJM.DC
set_option linter.unusedSimpArgs false
set_option linter.unusedVariables false
set_option maxRecDepth 4000
namespace Go.Proofs.Ytmffcpiffkclgaa.ZJM.DC
open Go.Proofs.Ytmffcpiffkclgaa.ZJM Go.RowKit
section
variable {m : Mem} {lv a a' ver : Nat} {l : List Row} {c : Int} (hd : DA m lv a a' ver l c) {r : RD} (hs : Sim l c r) (nb : Bool) (nl : Bool) (L : List Slot)
end
end Go.Proofs.Ytmffcpiffkclgaa.ZJM.DC
set_option linter.unusedSimpArgs false
set_option linter.unusedVariables false
set_option maxRecDepth 4000
namespace Go.Proofs.Ytmffcpiffkclgaa.ZJM.DC
open Go.Proofs.Ytmffcpiffkclgaa.ZJM Go.RowKit
end Go.Proofs.Ytmffcpiffkclgaa.ZJM.DC
