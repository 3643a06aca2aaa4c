/- QuietScripts: what is left behind the first loop over all acts. -/
import Derived.Test.YtbbpkkeaddbcnaaZQS13
set_option linter.unusedSimpArgs false
set_option linter.unusedVariables false
namespace Go.Proofs.Ytbbpkkeaddbcnaa.ZJM.QS
open Go.Proofs.Ytbbpkkeaddbcnaa.ZJM Go.RowKit
section
variable (nl : Bool) (ms : List Mom) (stop : Int)
def S3e (s : Nat × Nat) (j : Nat) : St :=
  ⟨[(2, .ptr 0 2 [] 0), (3, .ptr 0 3 [] 0), (4, .ptr 0 4 [] 0), (8, .ptr 0 8 [] 0), (9, .ptr 0 9 [] 0), (10, .ptr 0 10 [] 0)], [],
    [(2, [.lst none nl 2 (Ms ms)]), (3, [.int .u8 stop]), (4, [.bool false]), (8, [.int .i64 (at0 s j).1]), (9, [.int .i64 (at0 s j).2]), (10, [.int .i64 0])], [], []⟩
theorem loopE (hl : ms.length < 1000000) (s : Nat × Nat) (hJ : J0 ms ms.length 0 s) {st : St} (h0 : maskSt [2, 3, 4, 8, 9, 10] [2, 3, 4, 8, 9, 10] [] [] st = some (S3e nl ms stop s 0)) :
    loopW (maskSt [2, 3, 4, 8, 9, 10] [2, 3, 4, 8, 9, 10] [] []) (Cd.run (app E) c3.body.inner.body) st = c3.body.inner.body.run (app E) (S3e nl ms stop s (ms.length - s.1)) := by
  obtain ⟨j1, j2, j3⟩ := hJ
  refine loop_eq (S3e nl ms stop s) (ms.length - s.1) (fun j hj => ?_) ?_ h0
  · obtain ⟨t, ht⟩ : ∃ t, t = s.1 + j := ⟨_, rfl⟩
    have hlm : t < ms.length := by omega
    have hlt' : (t : Int) < ms.length := by omega
    have hw := wrap_succ t (by omega)
    have hn : (at0 s j).2 = ms[t].acts.length := by
      obtain ⟨_, h1, h2⟩ := j3 (by omega)
      unfold at0
      by_cases hj0 : j = 0
      · subst hj0
        have ht' : t = s.1 := by omega
        subst ht'
        simp only [if_true]
        rw [h1]; simp [alen, hlm]
      · simp only [if_neg hj0]
        have := h2 t (by omega) hlm
        simpa [alen, hlm] using this.symm
    have ha : (at0 s j).1 = t := ht.symm
    have ha' : (at0 s (j + 1)) = (t + 1, 0) := by simp [at0]; omega
    unfold S3e
    rw [ha']
    clear ht
    generalize at0 s j = p at hn ha
    obtain ⟨p1, p2⟩ := p
    simp only at hn ha
    subst hn; subst ha
    simp [c3, Cd.inner, Cd.body, hlm, hlt', encs_getE, Mom.enc, Mom.cs, ms_okns, hw]
  · have e1 : (at0 s (ms.length - s.1)).1 = ms.length := by simp only [at0]; omega
    unfold S3e
    rw [e1]
    simp [c3, Cd.inner, Cd.body]
end
end Go.Proofs.Ytbbpkkeaddbcnaa.ZJM.QS
