/- QuietScripts: the law's function answers true. -/
import Derived.Test.YtbbpkkeaddbcnaaZQS15
set_option linter.unusedSimpArgs false
set_option linter.unusedVariables false
namespace Go.Proofs.Ytbbpkkeaddbcnaa.ZJM.QS
open Go.Proofs.Ytbbpkkeaddbcnaa.ZJM Go.RowKit

theorem app3 (nl : Bool) (ms0 ms : List Mom) (hms : ∀ m ∈ ms, m.fine) (hl : ms.length < 1000000) (stop : Int) (hs0 : 0 ≤ stop) (hs1 : stop ≤ 255)
    (hcut : ∃ k : Int, mnP (.int .i64 ms0.length) (.int .i64 40) = some (.int .i64 k) ∧ slclP 2 (.lst none nl 2 (Ms ms0)) none (some (.int .i64 k)) = some (.lst none nl 2 (Ms ms))) :
    app E false (.fn 3 []) [.lst none nl 2 (Ms ms0), .int .u8 stop] [] = some (.bool true, emptyBag, []) := by
  obtain ⟨k, hk1, hk2⟩ := hcut
  obtain ⟨nq, Q, nq2, Q2, nc, C, D, nw, W, A⟩ := asks nl ms hms hl
  obtain ⟨e7, e9, e8, e7', e8', hlen, e10, e11, e8c, e12, e8d, e13, e8e⟩ := A
  have hal : ∀ m ∈ ms, m.acts.length < 2000000000000 := fun m hm => (fine8 (hms m hm)).1
  obtain ⟨s', hJ, ha0⟩ := all0 nl ms stop hl hal
  have hE := @loopE nl ms stop hl s' hJ
  have hw : IntKind.i64.wrap stop = stop := by unfold IntKind.wrap; simp [IntKind.bits, IntKind.signed]; omega
  have hlv := live'
  have h15 := app15 nl ms
  rw [app_fn E rfl h3 rfl]
  simp [mem0, y0] at ha0
  simp only [S3e, c3, Cd.inner, Cd.body] at hE
  have h40 : at0 s' 0 = s' := by simp [at0]
  have h41 : (at0 s' (ms.length - s'.1)).1 = ms.length := by have := hJ.1; simp only [at0]; omega
  obtain ⟨u, hu1, hu2, ha1⟩ := all1 nl ms stop hl hal (ms.length : Int) ((at0 s' (ms.length - s'.1)).2 : Int) hs0 hs1
  simp [mem1, y1] at ha1
  simp [-slclP, -mnP, -encs_cons, c3, hk1, hk2, ms_deps, e7, e9, e8, e7', e8', hlen, e10, e11, e8c, e12, e8d, e13, e8e, h15, bagName, PV.ren, PV.rens, PV.retag, PV.retag1, ms_rens, ha0]
  rw [hE (by simp [h40, ms_okns])]
  rw [h41]
  simp [-encs_cons, h15, bagName, PV.ren, PV.rens, PV.retag, PV.retag1, ms_rens, ha1]
  obtain ⟨u1, u2⟩ := u
  simp only at hu1 hu2
  rcases hu1 with rfl | rfl <;> simp [-encs_cons, hlv, hw, hu2, frzV, frzR]
end Go.Proofs.Ytbbpkkeaddbcnaa.ZJM.QS
