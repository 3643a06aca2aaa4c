/- QuietScripts: the first loop over all acts: its rounds. -/
import Derived.Test.YtbbpkkeaddbcnaaZQS10
import Derived.Test.YtbbpkkeaddbcnaaZQS9
set_option linter.unusedSimpArgs false
set_option linter.unusedVariables false
namespace Go.Proofs.Ytbbpkkeaddbcnaa.ZJM.QS
open Go.Proofs.Ytbbpkkeaddbcnaa.ZJM Go.RowKit

def rd0 : Rd := (c3.rds[0]?).getD ⟨[], [], .skip, .skip⟩
def rd1 : Rd := (c3.rds[1]?).getD ⟨[], [], .skip, .skip⟩
section
variable (nl : Bool) (ms : List Mom) (stop : Int)
/-- The law's variables while it loops over all acts. -/
def mem0 (q : Nat) (s : Nat × Nat) : Lvl := [(500000000, [.lrec q]), (65000, [.lst none nl 2 (Ms ms)]), (10, [.int .i64 0]), (9, [.int .i64 s.2]), (8, [.int .i64 s.1]), (4, [.bool false]), (3, [.int .u8 stop]), (2, [.lst none nl 2 (Ms ms)])]
def y0 : PV := .rnd 3 0 [2, 4, 8, 9] [.ptr 0 2 [] 0, .ptr 0 4 [] 0, .ptr 0 8 [] 0, .ptr 0 9 [] 0] 0 500000000
def alen (t : Nat) : Nat := ((ms[t]?).map fun m => m.acts.length).getD 0
/-- Where it stands ahead of act k of moment i. -/
def J0 (i k : Nat) (s : Nat × Nat) : Prop := s.1 ≤ i ∧ (s.1 = i → s.2 = k) ∧ (s.1 < i → k = 0 ∧ s.2 = alen ms s.1 ∧ ∀ t, s.1 < t → t < i → alen ms t = 0)
/-- The catching up. -/
def at0 (s : Nat × Nat) (j : Nat) : Nat × Nat := (s.1 + j, if j = 0 then s.2 else 0)
def S3r (own1 : Lvl) (i : Nat) (x : Act) (s : Nat × Nat) (j : Nat) : St :=
  ⟨[(2, .ptr 0 2 [] 0), (4, .ptr 0 4 [] 0), (8, .ptr 0 8 [] 0), (9, .ptr 0 9 [] 0), (12, .int .i64 i), (13, .ptr 2 13 [] 0)], [], [(13, x.cs)], [], [own1, mem0 nl ms stop 1 (at0 s j)]⟩
theorem loopR (own1 : Lvl) (i : Nat) (hi : i < ms.length) (hl : ms.length < 1000000) (x : Act) (s : Nat × Nat) (hs : s.1 ≤ i) (hst : s.1 < i → s.2 = alen ms s.1 ∧ ∀ t, s.1 < t → t < i → alen ms t = 0) {st : St} (h0 : maskSt [2, 4, 8, 9, 12, 13] [13] [] [] st = some (S3r nl ms stop own1 i x s 0)) :
    loopW (maskSt [2, 4, 8, 9, 12, 13] [13] [] []) (Cd.run (app E) (rd0.body.nth 0)) st = (rd0.body.nth 0).run (app E) (S3r nl ms stop own1 i x s (i - s.1)) := by
  refine loop_eq (S3r nl ms stop own1 i x s) (i - s.1) (fun j hj => ?_) ?_ h0
  · obtain ⟨t, ht⟩ : ∃ t, t = s.1 + j := ⟨_, rfl⟩
    have hlt : t < i := by omega
    have hlt' : (t : Int) < i := by omega
    have hlm : t < ms.length := by omega
    have hge : ¬ ((ms.length : Int) ≤ (t : Int)) := by omega
    have hw := wrap_succ t (by omega)
    have hn : (at0 s j).2 = ms[t].acts.length := by
      obtain ⟨h1, h2⟩ := hst (by omega)
      unfold at0
      by_cases hj0 : j = 0
      · subst hj0
        have ht' : t = s.1 := by omega
        subst ht'
        simp only [if_true]
        rw [h1]; simp [alen, hlm]
      · simp only [if_neg hj0]
        have := h2 t (by omega) hlt
        simpa [alen, hlm] using this.symm
    have ha : (at0 s j).1 = t := ht.symm
    have ha' : (at0 s (j + 1)) = (t + 1, 0) := by simp [at0]; omega
    unfold S3r
    rw [ha']
    clear ht
    generalize at0 s j = p at hn ha
    obtain ⟨p1, p2⟩ := p
    simp only at hn ha
    subst hn; subst ha
    simp [rd0, c3, Cd.nth, Cd.loops, Cd.body, mem0, hlt, hlt', hlm, hge, encs_getE, Mom.enc, Mom.cs, ms_okns, Act.cs, hw]
  · have e1 : (at0 s (i - s.1)).1 = i := by simp only [at0]; omega
    unfold S3r
    generalize at0 s (i - s.1) = p at e1
    obtain ⟨p1, p2⟩ := p
    simp only at e1
    subst e1
    simp [rd0, c3, Cd.nth, Cd.loops, Cd.body, mem0]
end
end Go.Proofs.Ytbbpkkeaddbcnaa.ZJM.QS
