/- QuietScripts: two lists of moments are the same. -/
import Derived.Test.YtbbpkkeaddbcnaaZQS3
set_option linter.unusedSimpArgs false
set_option linter.unusedVariables false
namespace Go.Proofs.Ytbbpkkeaddbcnaa.ZJM.QS
open Go.Proofs.Ytbbpkkeaddbcnaa.ZJM Go.RowKit

def _root_.Go.Proofs.Ytbbpkkeaddbcnaa.ZJM.Cd.loops : Cd → List Cd
  | .seq a b => a.loops ++ b.loops
  | .block _ a => a.loops
  | .cond _ a b => a.loops ++ b.loops
  | .loop f k t d a => .loop f k t d a :: a.loops
  | _ => []
/-- The n-th loop's body. -/
def _root_.Go.Proofs.Ytbbpkkeaddbcnaa.ZJM.Cd.nth (c : Cd) (n : Nat) : Cd := (c.loops[n]?.getD .skip).body
theorem Act.ext' {x y : Act} (h : x.cs = y.cs) : x = y := by
  cases x; cases y
  simp only [Act.cs, List.cons.injEq, PV.int.injEq, PV.bool.injEq, PV.str.injEq, true_and, and_true] at h
  obtain ⟨h0, h1, h2, h3, h4, h5, h6, h7, h8, h9, h10, h11, h12⟩ := h
  simp [*]
theorem Flt.ext' {x y : Flt} (h : x.cs = y.cs) : x = y := by
  cases x; cases y
  simp only [Flt.cs, List.cons.injEq, PV.int.injEq, PV.bool.injEq, true_and, and_true] at h
  obtain ⟨h0, h1, h2, h3, h4, h5, h6, h7, h8, h9, h10, h11, h12, h13, h14⟩ := h
  simp [*]
section
variable (na nb : Bool) (as_ bs : List Mom)
def S8c (i : Nat) (k : Nat) : St := ⟨[(0, .lst none na 2 (Ms as_)), (1, .lst none nb 2 (Ms bs)), (5, .int .i64 i), (6, .int .i64 k)], [], [], [], []⟩
/-- The same acts, one by one. -/
theorem loop8b (i : Nat) (hi : i < as_.length) (hi2 : i < bs.length) (he : as_[i].acts = bs[i].acts) (hl : as_[i].acts.length < 2000000000000) {st : St} (h0 : maskSt [0, 1, 5, 6] [] [] [] st = some (S8c na nb as_ bs i 0)) :
    loopW (maskSt [0, 1, 5, 6] [] [] []) (Cd.run (app E) c8.body.inner.body.inner.body) st = c8.body.inner.body.inner.body.run (app E) (S8c na nb as_ bs i as_[i].acts.length) := by
  refine loop_eq (S8c na nb as_ bs i) as_[i].acts.length (fun k hk => ?_) ?_ h0
  · have hk' : (k : Int) < as_[i].acts.length := by omega
    have hk2 : k < bs[i].acts.length := by rw [← he]; exact hk
    have hw := wrap_succ k (by omega)
    have hx : bs[i].acts[k] = as_[i].acts[k] := by simp only [he]
    simp [c8, Cd.inner, Cd.body, S8c, hk', hk, hk2, hi, hi2, encs_getE, Mom.enc, Mom.cs, Act.enc, Act.cs, hx, hw, bytes_beq, ms_okns]
  · simp [c8, Cd.inner, Cd.body, S8c, hi, encs_getE, Mom.enc, Mom.cs]
def S8d (i : Nat) (k : Nat) : St := ⟨[(0, .lst none na 2 (Ms as_)), (1, .lst none nb 2 (Ms bs)), (5, .int .i64 i), (7, .int .i64 k)], [], [], [], []⟩
/-- The same faults, one by one. -/
theorem loop8c (i : Nat) (hi : i < as_.length) (hi2 : i < bs.length) (he : as_[i].flts = bs[i].flts) (hl : as_[i].flts.length < 3000000000000) {st : St} (h0 : maskSt [0, 1, 5, 7] [] [] [] st = some (S8d na nb as_ bs i 0)) :
    loopW (maskSt [0, 1, 5, 7] [] [] []) (Cd.run (app E) (c8.body.nth 2)) st = (c8.body.nth 2).run (app E) (S8d na nb as_ bs i as_[i].flts.length) := by
  refine loop_eq (S8d na nb as_ bs i) as_[i].flts.length (fun k hk => ?_) ?_ h0
  · have hk' : (k : Int) < as_[i].flts.length := by omega
    have hk2 : k < bs[i].flts.length := by rw [← he]; exact hk
    have hw := wrap_succ k (by omega)
    have hx : bs[i].flts[k] = as_[i].flts[k] := by simp only [he]
    simp [c8, Cd.nth, Cd.loops, Cd.body, S8d, hk', hk, hk2, hi, hi2, encs_getE, Mom.enc, Mom.cs, Flt.enc, Flt.cs, hx, hw, bytes_beq, ms_okns]
  · simp [c8, Cd.nth, Cd.loops, Cd.body, S8d, hi, encs_getE, Mom.enc, Mom.cs]
def S8 (i : Nat) : St := ⟨[(0, .lst none na 2 (Ms as_)), (1, .lst none nb 2 (Ms bs)), (5, .int .i64 i)], [], [], [], []⟩
theorem loop8 (hln : as_.length = bs.length) (hal : as_.length < 1000000) (he : ∀ i, (h : i < as_.length) → (h2 : i < bs.length) → as_[i].acts = bs[i].acts ∧ as_[i].flts = bs[i].flts) (hl : ∀ m ∈ as_, m.acts.length < 2000000000000 ∧ m.flts.length < 3000000000000) {st : St} (h0 : maskSt [0, 1, 5] [] [] [] st = some (S8 na nb as_ bs 0)) :
    loopW (maskSt [0, 1, 5] [] [] []) (Cd.run (app E) c8.body.inner.body) st = c8.body.inner.body.run (app E) (S8 na nb as_ bs as_.length) := by
  refine loop_eq (S8 na nb as_ bs) as_.length (fun i hi => ?_) ?_ h0
  · have hi' : (i : Int) < as_.length := by omega
    have hi2 : i < bs.length := by omega
    have hw := wrap_succ i (by omega)
    obtain ⟨e1, e2⟩ := he i hi hi2
    obtain ⟨l1, l2⟩ := hl _ (List.getElem_mem hi)
    have h1 := @loop8b na nb as_ bs i hi hi2 e1 l1
    have h2 := @loop8c na nb as_ bs i hi hi2 e2 l2
    simp only [S8c, c8, Cd.inner, Cd.body] at h1
    simp only [S8d, c8, Cd.nth, Cd.loops, Cd.body, List.nil_append, List.append_nil, List.cons_append, List.getElem?_cons_succ, List.getElem?_cons_zero, Option.getD_some] at h2
    unfold S8
    simp [c8, Cd.inner, Cd.body, hi', hi, hi2, encs_getE, Mom.enc, Mom.cs, ← e1, ← e2]
    rw [h1 (by simp [ms_okns])]
    simp [hi, hi2, encs_getE, Mom.enc, Mom.cs, ← e1, ← e2]
    rw [h2 (by simp [ms_okns])]
    simp [hi, hi2, encs_getE, Mom.enc, Mom.cs, ← e1, ← e2, hw, ms_okns]
  · simp [c8, Cd.inner, Cd.body, S8]
/-- Lists whose moments are alike are the same. -/
theorem app8 (hln : as_.length = bs.length) (hal : as_.length < 1000000) (he : ∀ i, (h : i < as_.length) → (h2 : i < bs.length) → as_[i].acts = bs[i].acts ∧ as_[i].flts = bs[i].flts) (hl : ∀ m ∈ as_, m.acts.length < 2000000000000 ∧ m.flts.length < 3000000000000) (M : Mem) :
    app E false (.fn 8 []) [.lst none na 2 (Ms as_), .lst none nb 2 (Ms bs)] [] = some (.bool true, emptyBag, []) := by
  rw [app_fn E rfl h8 rfl]
  have h := @loop8 na nb as_ bs hln hal he hl
  simp only [S8, c8, Cd.inner, Cd.body] at h
  simp [-encs_cons, c8, hln]
  rw [h (by simp [ms_okns])]
  simp [frzV, frzR]
end
end Go.Proofs.Ytbbpkkeaddbcnaa.ZJM.QS
