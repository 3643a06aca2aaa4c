/- The safety section's entries: what is added, one behind the other. -/
import Derived.Test.YtmffcpiffkclgaaZEP1
set_option linter.unusedSimpArgs false
set_option linter.unusedVariables false
set_option maxRecDepth 4000
namespace Go.Proofs.Ytmffcpiffkclgaa.ZJM.DC
open Go.Proofs.Ytmffcpiffkclgaa.ZJM Go.RowKit

def addE (r : RD) (e : Ent) : RD := addR r e.i e.s e.k e.a e.l e.h e.b
def codeE (r : RD) (e : Ent) : Int := addRC r e.i e.s e.k e.a e.l e.h e.b
/-- Entries, added up to the first error. -/
def runE : RD → List Ent → RD × Int
  | r, [] => (r, 0)
  | r, e :: es => if codeE r e = 0 then runE (addE r e) es else (r, codeE r e)
theorem runE_ok {r : RD} {e : Ent} {A : List Ent} (h : codeE r e = 0) : runE r (e :: A) = runE (addE r e) A := by rw [runE, if_pos h]
theorem runE_no {r : RD} {e : Ent} {A : List Ent} (h : codeE r e ≠ 0) : runE r (e :: A) = (r, codeE r e) := by rw [runE, if_neg h]
theorem addE_no {r : RD} {e : Ent} (h : codeE r e ≠ 0) : addE r e = r := by
  unfold addE addR
  exact if_neg h
theorem runE_append (r : RD) (A B : List Ent) : runE r (A ++ B) = if (runE r A).2 = 0 then runE (runE r A).1 B else runE r A := by
  induction A generalizing r with
  | nil => rfl
  | cons e A ih =>
    by_cases h : codeE r e = 0
    · have h1 : runE r (e :: A ++ B) = runE (addE r e) (A ++ B) := runE_ok h
      rw [h1, ih, runE_ok h]
    · have h1 : runE r (e :: A ++ B) = (r, codeE r e) := runE_no h
      rw [h1, runE_no h, if_neg h]
theorem runE_snoc (r : RD) (A : List Ent) (e : Ent) (h : (runE r A).2 = 0) : runE r (A ++ [e]) = if codeE (runE r A).1 e = 0 then (addE (runE r A).1 e, 0) else ((runE r A).1, codeE (runE r A).1 e) := by
  rw [runE_append, if_pos h]
  simp only [runE]
/-- A row of the program's table, and its entry. -/
structure Row5 where
  (s k l h : Int) (f : Bool)
def Row5.enc (x : Row5) : PV := .agg [.int .i64 x.s, .int .i64 x.k, .int .i64 x.l, .int .i64 x.h, .bool x.f]
abbrev Ls (l : List Row5) : List PV := encs Row5.enc l
theorem ls_data (l : List Row5) : PV.datas (Ls l) = true := encs_data fun x _ => rfl
theorem ls_okns (l : List Row5) (a b c) : PV.okns a b c (Ls l) = true := PV.datas_okns _ _ _ _ (ls_data l)
theorem ls_deps (l : List Row5) (a) : PV.deps a (Ls l) = true := PV.datas_deps _ _ (ls_data l)
attribute [simp] ls_okns ls_deps
section
variable {m : Mem} {lv a a' ver : Nat} {l : List Row} {c : Int} (hd : DA m lv a a' ver l c) {r : RD} (hs : Sim l c r)
include hd hs
end
section
variable {m : Mem} {lv a a' ver : Nat} {l : List Row} {c : Int} (hd : DA m lv a a' ver l c) {r : RD} (hs : Sim l c r) (nl : Bool) (i : Int) (L : List Row5) (hL : ∀ x ∈ L, wfits x.k x.l = true) (hLl : L.length ≤ 512)
include hd hs hL hLl
end
end Go.Proofs.Ytmffcpiffkclgaa.ZJM.DC

set_option linter.unusedSimpArgs false
set_option linter.unusedVariables false
set_option maxRecDepth 10000
namespace Go.Proofs.Ytmffcpiffkclgaa.ZJM.DC
open Go.Proofs.Ytmffcpiffkclgaa.ZJM Go.RowKit

def _root_.Go.Proofs.Ytmffcpiffkclgaa.ZJM.Cd.loops : Cd → List Cd
  | .seq a b => a.loops ++ b.loops
  | .block _ a => a.loops
  | .cond _ a b => a.loops ++ b.loops
  | .loop f k t d a => .loop f k t d a :: a.loops
  | _ => []
/-- The n-th loop's body. -/
def _root_.Go.Proofs.Ytmffcpiffkclgaa.ZJM.Cd.nth (c : Cd) (n : Nat) : Cd := (c.loops[n]?.getD .skip).body
end Go.Proofs.Ytmffcpiffkclgaa.ZJM.DC

set_option linter.unusedSimpArgs false
set_option linter.unusedVariables false
set_option maxRecDepth 4000
namespace Go.Proofs.Ytmffcpiffkclgaa.ZJM.DC
open Go.Proofs.Ytmffcpiffkclgaa.ZJM Go.RowKit

theorem runE_bad {r : RD} {A : List Ent} (h : (runE r A).2 ≠ 0) (B : List Ent) : runE r (A ++ B) = runE r A := by rw [runE_append, if_neg h]
theorem runE_good {r : RD} {A : List Ent} (h : (runE r A).2 = 0) (B : List Ent) : runE r (A ++ B) = runE (runE r A).1 B := by rw [runE_append, if_pos h]
section
variable {m : Mem} {lv a a' ver : Nat} {l : List Row} {c : Int} (hd : DA m lv a a' ver l c) {r : RD}
include hd
end
end Go.Proofs.Ytmffcpiffkclgaa.ZJM.DC
