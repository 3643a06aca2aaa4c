/- law15's live; Same; AreaWords' and AreaLays' functions. -/
import Derived.Test.YtmffcpiffkclgaaZEA2
import Derived.Test.YtmffcpiffkclgaaZEA1
import Derived.Test.YtmffcpiffkclgaaZEP3
set_option linter.unusedSimpArgs false
set_option linter.unusedVariables false
set_option maxRecDepth 10000
namespace Go.Proofs.Ytmffcpiffkclgaa.ZJM.DC
open Go.Proofs.Ytmffcpiffkclgaa.ZJM Go.RowKit

theorem run_laid : runE ⟨true, [], 0⟩ laid = (⟨false, laid, 0⟩, 0) := by kernel_rfl
def rLaid : RD := ⟨false, laid, 0⟩
theorem set_laid : setC rLaid 5118 0 165 = 0 := by kernel_rfl
theorem num_laid : numR (setR rLaid 5118 0 165) 5118 0 = (165, true) := by kernel_rfl
theorem len_laid : (setR rLaid 5118 0 165).l.length = 70 := by kernel_rfl
section
variable {m : Mem} {lv a a' ver : Nat} {l : List Row} {c : Int} (hd : DA m lv a a' ver l c) {r : RD} (hs : Sim l c r)
include hd hs
theorem app64 : ∃ m', app E false (.fn 18 []) [.ptr lv a [] 0, .bool true] m = some (.int .i64 (setC r 5118 0 165), emptyBag, m') ∧ Does m lv a a' ver l c (setR r 5118 0 165) m' := by
  obtain ⟨m1, e1, e2⟩ := do_set (hd.cons []) hs 5118 0 165
  obtain ⟨m2, rfl, e3⟩ := e2.cons hd
  refine ⟨m2, ?_, e3⟩
  rw [app_fn E rfl h64 rfl]
  generalize setC r 5118 0 165 = w at *
  simp [c64, e1]
theorem app65 : app E false (.fn 16 []) [.ptr lv a [] 0] m = some (.bool ((numR r 5118 0).2 && ((numR r 5118 0).1 == 165)), emptyBag, m) := by
  have h := app31 (.inr ⟨_, _, rfl⟩) (finds (hd.cons []) hs.dok 5118 0) (okO_get hs.dok _)
  rw [hs.num] at h
  rw [app_fn E rfl h65 rfl]
  generalize numR r 5118 0 = w at *
  obtain ⟨w1, w2⟩ := w
  cases w2 <;> simp [c65, h]
end
def ownA (ver : Nat) (rows : List Row) (c : Int) : Lvl := [(13000, [.ptr 0 13001 [] 0, .int .i64 c]), (13001, [shC ver rows])]
theorem ownA_da (ver : Nat) (rows : List Row) (c : Int) : DA [ownA ver rows c] 0 13000 13001 ver rows c := ⟨by simp [ownA], by simp [ownA], by decide⟩
theorem ownA_set (ver : Nat) (rows : List Row) (c : Int) (v : Nat) (l' : List Row) (c' : Int) : dset [ownA ver rows c] 0 13000 13001 v l' c' = [ownA v l' c'] := by simp [dset, wr, ownA]
theorem live15 : app E false (.fn 24 []) [] [] = some (.bool true, emptyBag, []) := by
  have h11 := app11 [[]]
  have h18 := app18 8192 1 16
  have hw18 : wordA 8192 1 16 = (536871184, 0) := by decide
  rw [hw18] at h18
  obtain ⟨m1, e1, v1, l1, c1, rfl, hs1⟩ := app16 (ownA_da 0 [] 0) sim_new
  rw [run_laid] at e1 hs1
  simp only at e1 hs1
  rw [ownA_set] at e1
  obtain ⟨m2, f1, v2, l2, c2, rfl, hs2⟩ := app64 (ownA_da v1 l1 c1) hs1
  rw [ownA_set] at f1
  have hset : setC ⟨false, laid, 0⟩ 5118 0 165 = 0 := set_laid
  rw [hset] at f1
  have h65 := app65 (ownA_da v2 l2 c2) hs2
  have hnum : numR (setR ⟨false, laid, 0⟩ 5118 0 165) 5118 0 = (165, true) := num_laid
  rw [hnum] at h65
  have h45 := app45 (ownA_da v2 l2 c2)
  have hl : (l2.length : Int) = 70 := by
    rw [hs2.len]
    have : (setR ⟨false, laid, 0⟩ 5118 0 165).l.length = 70 := len_laid
    rw [this]; rfl
  rw [hl] at h45
  rw [app_fn E rfl h15 rfl]
  simp only [ownA, List.length_singleton, List.length_cons, List.length_nil] at h11 e1 f1 h65 h45
  simp [c15, h11, h18, e1, f1, h65, h45, bagName, PV.retag, PV.retag1]
end Go.Proofs.Ytmffcpiffkclgaa.ZJM.DC
