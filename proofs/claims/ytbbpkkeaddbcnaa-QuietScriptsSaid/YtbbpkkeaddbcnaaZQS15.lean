/- QuietScripts: the law's function. -/
import Derived.Test.YtbbpkkeaddbcnaaZQS14
import Derived.Test.YtbbpkkeaddbcnaaZQS7
set_option linter.unusedSimpArgs false
set_option linter.unusedVariables false
namespace Go.Proofs.Ytbbpkkeaddbcnaa.ZJM.QS
open Go.Proofs.Ytbbpkkeaddbcnaa.ZJM Go.RowKit

def Mom.fine (m : Mom) : Prop := m.ok ∧ m.acts.length * 104 ≤ maxBytes ∧ m.flts.length * 64 ≤ maxBytes
theorem kept_len (p : Act → Bool) (l : List Act) : (kept p l).length ≤ l.length := List.length_filter_le _ _
theorem kept_kept (p : Act → Bool) (l : List Act) : kept p (kept p l) = kept p l := by simp [kept, List.filter_filter]
theorem less_fine (p : Act → Bool) {m : Mom} (h : m.fine) : (m.less p).fine := by
  obtain ⟨⟨h1, h2⟩, h3, h4⟩ := h
  refine ⟨⟨fun h => by simpa [Mom.less] using h, h2⟩, Nat.le_trans (Nat.mul_le_mul_right _ (kept_len p m.acts)) h3, h4⟩
theorem fine8 {m : Mom} (h : m.fine) : m.acts.length < 2000000000000 ∧ m.flts.length < 3000000000000 := by
  obtain ⟨_, h3, h4⟩ := h
  unfold maxBytes at h3 h4
  omega
theorem live' : app E false (.fn 17 []) [] [] = some (.bool true, emptyBag, []) := app_some.2 ⟨20, live_ok⟩
/-- What the law's function asks, bit by bit. -/
structure Asks (nl : Bool) (ms : List Mom) (nq : Bool) (Q : List Mom) (nq2 : Bool) (Q2 : List Mom) (nc : Bool) (C D : List Mom) (nw : Bool) (W : List Mom) : Prop where
  e7 : app E false (.fn 7 []) [.lst none nl 2 (Ms ms)] [] = some (.lst none nq 2 (Ms Q), emptyBag, [])
  e9 : app E false (.fn 9 []) [.lst none nl 2 (Ms ms)] [] = some (.lst none false 2 (Ms Q), emptyBag, [])
  e8 : app E false (.fn 8 []) [.lst none nq 2 (Ms Q), .lst none false 2 (Ms Q)] [] = some (.bool true, emptyBag, [])
  e7' : app E false (.fn 7 []) [.lst none nq 2 (Ms Q)] [] = some (.lst none nq2 2 (Ms Q2), emptyBag, [])
  e8' : app E false (.fn 8 []) [.lst none nq2 2 (Ms Q2), .lst none nq 2 (Ms Q)] [] = some (.bool true, emptyBag, [])
  hlen : Q.length = ms.length
  e10 : app E false (.fn 10 []) [.lst none nl 2 (Ms ms)] [] = some (.lst none nc 2 (Ms C), emptyBag, [])
  e11 : app E false (.fn 11 []) [.lst none nl 2 (Ms ms)] [] = some (.lst none false 2 (Ms D), emptyBag, [])
  e8c : app E false (.fn 8 []) [.lst none nc 2 (Ms C), .lst none false 2 (Ms D)] [] = some (.bool true, emptyBag, [])
  e12 : app E false (.fn 14 []) [.lst none nl 2 (Ms ms), .fn 12 []] [] = some (.lst none nq 2 (Ms Q), emptyBag, [])
  e8d : app E false (.fn 8 []) [.lst none nq 2 (Ms Q), .lst none nq 2 (Ms Q)] [] = some (.bool true, emptyBag, [])
  e13 : app E false (.fn 14 []) [.lst none nl 2 (Ms ms), .fn 13 []] [] = some (.lst none nw 2 (Ms W), emptyBag, [])
  e8e : app E false (.fn 8 []) [.lst none nw 2 (Ms W), .lst none nl 2 (Ms ms)] [] = some (.bool true, emptyBag, [])
theorem asks (nl : Bool) (ms : List Mom) (hms : ∀ m ∈ ms, m.fine) (hl : ms.length < 1000000) : ∃ nq Q nq2 Q2 nc C D nw W, Asks nl ms nq Q nq2 Q2 nc C D nw W := by
  have hQf : ∀ m ∈ ms.map (Mom.less isRead), m.fine := fun m hm => by obtain ⟨x, hx, rfl⟩ := List.mem_map.1 hm; exact less_fine _ (hms x hx)
  have hQl : (ms.map (Mom.less isRead)).length < 1000000 := by simpa using hl
  refine ⟨_, ms.map (Mom.less isRead), _, _, _, _, _, _, _, app7 nl ms hms hl, app9 nl ms hms hl, app8 _ _ _ _ rfl hQl (fun i h h2 => ⟨rfl, rfl⟩) (fun m hm => fine8 (hQf m hm)) [], app7 _ _ hQf hQl, ?_, by simp, app10 nl ms hms hl, app11 nl ms hl, ?_, app14 12 isRead app12 nl ms hms hl [], app8 _ _ _ _ rfl hQl (fun i h h2 => ⟨rfl, rfl⟩) (fun m hm => fine8 (hQf m hm)) [], app14 13 (fun _ => false) app13 nl ms hms hl [], ?_⟩
  · refine app8 _ _ _ _ (by simp) (by simpa using hl) (fun i h h2 => ?_) (fun m hm => ?_) []
    · simp only [List.getElem_map]
      exact ⟨kept_kept _ _, rfl⟩
    · obtain ⟨x, hx, rfl⟩ := List.mem_map.1 hm; exact fine8 (less_fine _ (hQf x hx))
  · refine app8 _ _ _ _ (by simp) (by simpa using hl) (fun i h h2 => ?_) (fun m hm => ?_) []
    · simp only [List.getElem_map]
      exact ⟨rfl, rfl⟩
    · obtain ⟨x, hx, rfl⟩ := List.mem_map.1 hm
      exact ⟨(fine8 (hms x hx)).1, by simp⟩
  · refine app8 _ _ _ _ (by simp) (by simpa using hl) (fun i h h2 => ?_) (fun m hm => ?_) []
    · simp only [List.getElem_map]
      exact ⟨kept_none _, rfl⟩
    · obtain ⟨x, hx, rfl⟩ := List.mem_map.1 hm; exact fine8 (less_fine _ (hms x hx))
end Go.Proofs.Ytbbpkkeaddbcnaa.ZJM.QS
