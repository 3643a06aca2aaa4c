/- Mappings: which fit, how long they are. -/
import Derived.Test.YtmffcpiffkclgaaZEA5
import Derived.Test.YtmffcpiffkclgaaZEA6
import Derived.Test.YtmffcpiffkclgaaZEP7
set_option linter.unusedSimpArgs false
set_option linter.unusedVariables false
set_option maxRecDepth 4000
namespace Go.Proofs.Ytmffcpiffkclgaa.ZJM.DC
open Go.Proofs.Ytmffcpiffkclgaa.ZJM Go.RowKit

structure Slot where
  (i s n : Int)
def Slot.enc (x : Slot) : PV := slt x.i x.s x.n
abbrev Ss (l : List Slot) : List PV := encs Slot.enc l
theorem ss_data (l : List Slot) : PV.datas (Ss l) = true := encs_data fun x _ => rfl
theorem ss_okns (l : List Slot) (a b c) : PV.okns a b c (Ss l) = true := PV.datas_okns _ _ _ _ (ss_data l)
theorem ss_deps (l : List Slot) (a) : PV.deps a (Ss l) = true := PV.datas_deps _ _ (ss_data l)
theorem ss_names (l : List Slot) (a) : PV.namess a (Ss l) = [] := PV.datas_namess _ _ (ss_data l)
theorem ss_rens (l : List Slot) (a b ρ) : PV.rens a b ρ (Ss l) = Ss l := PV.datas_rens _ _ _ _ (ss_data l)
attribute [simp] ss_okns ss_deps ss_names ss_rens
def safeA (i : Int) : Bool := decide (4865 ≤ i) && decide (i ≤ 4928) || decide (4993 ≤ i) && decide (i ≤ 5056) || (i == 5119)
/-- May this entry be mapped? -/
def mapA (a i : Int) : Bool := !(a == 4 || safeA i || i == 5118)
def bitsA (o : Option Row) (i : Int) : Int := match o with
  | none => 0
  | some x => if mapA x.a i = true then 8 * ksz x.k else 0
def oneA (r : RD) (x : Slot) : Bool := match findIx r.l x.i x.s with
  | none => false
  | some j => match r.l[j]? with
    | none => false
    | some y => mapA y.a x.i && decide (0 < ksz y.k) && (x.n == 8 * ksz y.k)
section
variable {m : Mem} {lv a a' ver : Nat} {l : List Row} {c : Int} (hd : DA m lv a a' ver l c) (hk : Dok l)
end
section
variable (r : RD) (hr : r.ok) (nl : Bool) (L : List Slot)
end
end Go.Proofs.Ytmffcpiffkclgaa.ZJM.DC

set_option linter.unusedSimpArgs false
set_option linter.unusedVariables false
set_option maxRecDepth 4000
namespace Go.Proofs.Ytmffcpiffkclgaa.ZJM.DC
open Go.Proofs.Ytmffcpiffkclgaa.ZJM Go.RowKit

theorem Sim.one {l : List Row} {c : Int} {r : RD} (h : Sim l c r) (x : Slot) : oneA r x = (!(bitsA (getW l (knum x.i x.s)) x.i == 0) && (x.n == bitsA (getW l (knum x.i x.s)) x.i)) := by
  rcases h.at x.i x.s with ⟨h1, h2⟩ | ⟨y, j, hj, h1, h2, hre, e1, e2, hok⟩
  · rw [h1]; simp [oneA, h2, bitsA]
  · rw [h1]
    obtain ⟨r0, r1, r2, r3, r4, r5⟩ := hre
    have hz := ksz_le y.k
    simp only [oneA, h2, List.getElem?_eq_getElem hj, bitsA, ← r1, ← r2]
    by_cases hm : mapA y.a x.i = true
    · rw [if_pos hm, hm]
      by_cases hk : 0 < ksz y.k
      · have : ¬ 8 * ksz y.k = 0 := by omega
        have : ((8 * ksz y.k) == 0) = false := by simpa using this
        simp [hk, this]
      · have : 8 * ksz y.k = 0 := by omega
        have : ((8 * ksz y.k) == 0) = true := by simpa using this
        simp [hk, this]
    · rw [if_neg hm]; simp [hm]
section
variable {m : Mem} {lv a a' ver : Nat} {l : List Row} {c : Int} (hd : DA m lv a a' ver l c) {r : RD} (hs : Sim l c r) (nl : Bool) (L : List Slot)
end
section
variable (nl : Bool) (L : List Slot)
end
end Go.Proofs.Ytmffcpiffkclgaa.ZJM.DC

set_option linter.unusedSimpArgs false
set_option linter.unusedVariables false
set_option maxRecDepth 10000
namespace Go.Proofs.Ytmffcpiffkclgaa.ZJM.DC
open Go.Proofs.Ytmffcpiffkclgaa.ZJM Go.RowKit

section
variable (m : Mem)
end
end Go.Proofs.Ytmffcpiffkclgaa.ZJM.DC
