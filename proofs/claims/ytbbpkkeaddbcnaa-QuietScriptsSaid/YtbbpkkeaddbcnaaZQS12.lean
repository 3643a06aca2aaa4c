/- QuietScripts: the first loop over all acts: a round; all rounds. -/
import Derived.Test.YtbbpkkeaddbcnaaZQS11
set_option linter.unusedSimpArgs false
set_option linter.unusedVariables false
namespace Go.Proofs.Ytbbpkkeaddbcnaa.ZJM.QS
open Go.Proofs.Ytbbpkkeaddbcnaa.ZJM Go.RowKit
section
variable (nl : Bool) (ms : List Mom) (stop : Int) (hl : ms.length < 1000000) (hal : ∀ m ∈ ms, m.acts.length < 2000000000000)
include hl hal in
theorem app0 (own1 : Lvl) (i : Nat) (hi : i < ms.length) (k : Nat) (hk : k < ms[i].acts.length) (s : Nat × Nat) (hJ : J0 ms i k s) :
    app E false y0 [.int .i64 i, ms[i].acts[k].enc] (own1 :: [mem0 nl ms stop 0 s]) = some (.bool true, emptyBag, own1 :: [mem0 nl ms stop 0 (i, k + 1)]) := by
  obtain ⟨j1, j2, j3⟩ := hJ
  have hlp := @loopR nl ms stop own1 i hi hl ms[i].acts[k] s j1 (fun h => ⟨(j3 h).2.1, (j3 h).2.2⟩)
  have hfin : at0 s (i - s.1) = (i, k) := by
    unfold at0
    by_cases he : s.1 = i
    · have := j2 he
      simp [he, this]
    · obtain ⟨e1, _⟩ := j3 (by omega)
      have : ¬ (i - s.1 = 0) := by omega
      simp only [if_neg this, e1]
      congr 1; omega
  have h0' : at0 s 0 = s := by simp [at0]
  have hal' := hal _ (List.getElem_mem hi)
  have hki : (k : Int) < ms[i].acts.length := by omega
  have hii : (i : Int) < ms.length := by omega
  have hk1 : ¬ ((ms[i].acts.length : Int) ≤ k) := by omega
  have hi1 : ¬ ((ms.length : Int) ≤ i) := by omega
  have hw := wrap_succ k (by omega)
  have h16 := app16 ms[i].acts[k]
  unfold y0
  rw [app_rnd E h3 (rd := rd0) rfl (by simp [rd0, c3, mem0, Act.enc])]
  simp only [rd0, c3, List.getElem?_cons_zero, Option.getD_some, Cd.nth, Cd.loops, List.nil_append, List.append_nil, List.cons_append, Cd.body, S3r, h0', hfin, mem0, Act.cs] at hlp
  simp [rd0, c3, mem0, Act.enc, Act.cs]
  rw [hlp (by simp [ms_okns])]
  simp only [Act.enc, Act.cs] at h16
  have hR : isRead ms[i].acts[k] = (ms[i].acts[k].k == 2 && !ms[i].acts[k].w) := rfl
  cases hkk : (ms[i].acts[k].k == 2) <;> cases hww : ms[i].acts[k].w <;> rw [hkk, hww] at hR <;> rw [hww] at h16 <;>
    simp [hi, hk, hki, hii, hk1, hi1, encs_getE, Mom.enc, Mom.cs, Act.enc, Act.cs, hw, h16, hR, hkk, hww, bytes_beq, as_deps]
end
end Go.Proofs.Ytbbpkkeaddbcnaa.ZJM.QS
